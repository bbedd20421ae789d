/- Functions of the given program as plain Lean functions, and their contracts: written by a program of the prover. -/
import Derived.Test.YtjmlloiolppoiaaPx0
import Derived.Test.YtjmlloiolppoiaaPx1
import Derived.Test.YtjmlloiolppoiaaPx11
import Derived.Test.YtjmlloiolppoiaaPx12
import Derived.Test.YtjmlloiolppoiaaPx15
namespace Go.Proofs.Ytjmlloiolppoiaa.P
open Go.RowKit Go.Proofs.YtjmlloiolppoiaaW.PrintWords Go.Proofs.YtjmlloiolppoiaaW.PrintLast Go.Proofs.YtjmlloiolppoiaaW.PrintMore
attribute [local go_sem] max2_int min2_int max_two min_two max_three min_three max_four min_four   -- for this text's walks alone
set_option linter.unusedVariables false
set_option linter.unusedSimpArgs false

attribute [local go_sem high] eqA29
/-! ### entaillaw2_TuplForms: function 3 -/
def entaillaw2_TuplForms.f (k : Nat) (a0 : Int) : Option (Bool) := (some (([(⟨(⟨#[97, 58, 98, 35, 99, 64, 100, 58, 101]⟩ : ByteArray), true⟩ : S22), (⟨(⟨#[97, 58, 98, 35, 99, 64, 100, 58, 101, 35, 102]⟩ : ByteArray), true⟩ : S22), (⟨(⟨#[97, 58, 98, 47, 99, 124, 42, 35, 99, 64, 100, 58, 101]⟩ : ByteArray), true⟩ : S22), (⟨(⟨#[]⟩ : ByteArray), false⟩ : S22), (⟨(⟨#[97, 58, 98, 35, 99, 64, 100]⟩ : ByteArray), false⟩ : S22), (⟨(⟨#[97, 58, 98, 64, 100, 58, 101]⟩ : ByteArray), false⟩ : S22), (⟨(⟨#[97, 35, 99, 64, 100, 58, 101]⟩ : ByteArray), false⟩ : S22), (⟨(⟨#[97, 58, 98, 35, 99, 64, 100, 58, 101, 35]⟩ : ByteArray), false⟩ : S22), (⟨(⟨#[97, 58, 98, 35, 99, 64, 100, 58, 101, 35, 102, 35, 103]⟩ : ByteArray), false⟩ : S22), (⟨(⟨#[97, 58, 98, 58, 99, 35, 99, 64, 100, 58, 101]⟩ : ByteArray), false⟩ : S22), (⟨(⟨#[97, 58, 98, 35, 99, 64, 100, 58, 101, 64, 102]⟩ : ByteArray), false⟩ : S22), (⟨(⟨#[58, 98, 35, 99, 64, 100, 58, 101]⟩ : ByteArray), false⟩ : S22), (⟨(⟨#[97, 58, 35, 99, 64, 100, 58, 101]⟩ : ByteArray), false⟩ : S22), (⟨(⟨#[97, 58, 98, 35, 64, 100, 58, 101]⟩ : ByteArray), false⟩ : S22), (⟨(⟨#[97, 58, 98, 35, 99, 64, 58, 101]⟩ : ByteArray), false⟩ : S22), (⟨(⟨#[97, 58, 98, 35, 99, 64, 100, 58]⟩ : ByteArray), false⟩ : S22), (⟨(⟨#[65, 58, 98, 35, 99, 64, 100, 58, 101]⟩ : ByteArray), false⟩ : S22), (⟨(⟨#[97, 58, 98, 32, 99, 35, 99, 64, 100, 58, 101]⟩ : ByteArray), false⟩ : S22), (⟨(⟨#[97, 58, 98, 35, 99, 47, 100, 64, 100, 58, 101]⟩ : ByteArray), false⟩ : S22), (⟨(⟨#[32, 97, 58, 98, 35, 99, 64, 100, 58, 101]⟩ : ByteArray), false⟩ : S22), (⟨(⟨#[97, 58, 98, 35, 99, 64, 100, 58, 101, 32]⟩ : ByteArray), false⟩ : S22)] : List (S22)) : List (S22))).bind fun y439 => (if (y439.length : Int) = 0 then (none) else (if 0 ≤ (Int.tmod (Go.bits .and .i64 a0 255) (y439.length : Int)) then (if (Int.tmod (Go.bits .and .i64 a0 255) (y439.length : Int)) < (y439.length : Int) then ((tupl_Parse.f k ((rd_T22 y439 (Int.tmod (Go.bits .and .i64 a0 255) (y439.length : Int))).f0)).bind fun bt444 => (if (bt444.2.2.2.2.2.2 == ((rd_T22 y439 (Int.tmod (Go.bits .and .i64 a0 255) (y439.length : Int))).f1)) = true then ((tupl_Text.f k bt444.1 bt444.2.1 bt444.2.2.1 bt444.2.2.2.1 bt444.2.2.2.2.1 bt444.2.2.2.2.2.1).bind fun t452 => (if bt444.2.2.2.2.2.2 = true then (if ((t452.toList == ((rd_T22 y439 (Int.tmod (Go.bits .and .i64 a0 255) (y439.length : Int))).f0).toList) == true) = true then ((entaillaw2_awake.f k).bind fun t453 => (some t453)) else (none)) else (if ((t452.toList == ((rd_T22 y439 (Int.tmod (Go.bits .and .i64 a0 255) (y439.length : Int))).f0).toList) == (((rd_T22 y439 (Int.tmod (Go.bits .and .i64 a0 255) (y439.length : Int))).f0).toList == ([] : List UInt8))) = true then (if ((bt444.1.toList == ([] : List UInt8) && (bt444.2.1.toList == ([] : List UInt8))) && (bt444.2.2.1.toList == ([] : List UInt8) && ((bt444.2.2.2.1.toList == ([] : List UInt8) && (bt444.2.2.2.2.1.toList == ([] : List UInt8) && (bt444.2.2.2.2.2.1.toList == ([] : List UInt8))))))) = true then ((entaillaw2_awake.f k).bind fun t454 => (some t454)) else (none)) else (none)))) else (none))) else (none)) else (none)))
theorem entaillaw2_TuplForms.mono : ∀ a0 k, LeO (entaillaw2_TuplForms.f k a0) (entaillaw2_TuplForms.f (k + 1) a0) := by
  intro a0 k
  unfold entaillaw2_TuplForms.f
  repeat' first
      | (with_reducible exact entaillaw2_awake.mono _)
      | (with_reducible exact tupl_Parse.mono _ _)
      | (with_reducible exact tupl_Text.mono _ _ _ _ _ _ _)
      | (with_reducible exact LeO.refl _)
      | (with_reducible exact LeO.none _)
      | (with_reducible refine LeO.ite ?_ ?_)
      | (with_reducible refine LeO.bind ?_ (fun _ => ?_))
      | exact entaillaw2_awake.mono _
      | exact tupl_Parse.mono _ _
      | exact tupl_Text.mono _ _ _ _ _ _ _
      | exact LeO.none _
      | refine LeO.ite ?_ ?_
      | refine LeO.bind ?_ (fun _ => ?_)
def entaillaw2_TuplForms.T4 : Bool × List (List Nat × List Nat) := (true, [([], []), ([], []), ([1], [1]), ([0, 2], [0, 2]), ([3], [3]), ([4], [4]), ([5, 4, 4], [4, 5]), ([4], [4]), ([7, 4], [4, 7]), ([6, 8, 4], [4, 6, 8]), ([4], [4]), ([10, 6, 4], [4, 10]), ([11], [11]), ([12, 11], [11, 12]), ([13, 11], [11, 13]), ([11, 14, 4], [4, 11, 14]), ([9, 15, 4], [4, 9, 15]), ([4, 16], [4, 16]), ([17, 11], [17]), ([18], [18]), ([19, 18, 18], [18, 19]), ([20], [20]), ([20], [20]), ([21, 22, 20], [20, 21, 22]), ([20, 23, 18], [18, 20, 23]), ([18, 24], [18, 24]), ([25, 20], [25]), ([26, 26], [26]), ([26, 27], [26, 27]), ([28, 27, 0, 1, 2, 3, 4, 5, 6, 7, 8, 9, 10, 11, 12, 13, 14, 15, 16, 17, 18, 19, 20, 21, 22, 23, 24, 25, 26, 27, 28], [28])])
def entaillaw2_TuplForms.B4 : List Nat := [0, 0, 2, 7, 15, 31, 63, 31, 159, 511, 31, 1151, 3199, 7295, 15487, 31871, 65535, 131071, 262143, 524287, 1048575, 2097151, 2097151, 8388607, 16777215, 33554431, 67108863, 134217727, 268435455, 536870911]
theorem entaillaw2_TuplForms.tab4 : rtab .any (opsOf Try.f3 4) = entaillaw2_TuplForms.T4 := by kernel_rfl
theorem entaillaw2_TuplForms.bits4 : waitsOk entaillaw2_TuplForms.T4.2 entaillaw2_TuplForms.B4 = true := by kernel_rfl
set_option maxHeartbeats 8000000 in
set_option maxRecDepth 100000 in
theorem entaillaw2_TuplForms.calls (k : Nat) (a0 : Int) (r : Bool) (w : World) (h : entaillaw2_TuplForms.f k a0 = some r) :
    Calls Try.prog 3 #[.int .i64 a0] w fun e w' => e = .returned (.bool r) ∧ Below w.heap.size w w' := by
  have hu22 := Try.underlying22
  have hu29 := Try.underlying29
  have HB := Aside0.mk (Below.refl w.heap.size w)
  have H : ((some (([(⟨(⟨#[97, 58, 98, 35, 99, 64, 100, 58, 101]⟩ : ByteArray), true⟩ : S22), (⟨(⟨#[97, 58, 98, 35, 99, 64, 100, 58, 101, 35, 102]⟩ : ByteArray), true⟩ : S22), (⟨(⟨#[97, 58, 98, 47, 99, 124, 42, 35, 99, 64, 100, 58, 101]⟩ : ByteArray), true⟩ : S22), (⟨(⟨#[]⟩ : ByteArray), false⟩ : S22), (⟨(⟨#[97, 58, 98, 35, 99, 64, 100]⟩ : ByteArray), false⟩ : S22), (⟨(⟨#[97, 58, 98, 64, 100, 58, 101]⟩ : ByteArray), false⟩ : S22), (⟨(⟨#[97, 35, 99, 64, 100, 58, 101]⟩ : ByteArray), false⟩ : S22), (⟨(⟨#[97, 58, 98, 35, 99, 64, 100, 58, 101, 35]⟩ : ByteArray), false⟩ : S22), (⟨(⟨#[97, 58, 98, 35, 99, 64, 100, 58, 101, 35, 102, 35, 103]⟩ : ByteArray), false⟩ : S22), (⟨(⟨#[97, 58, 98, 58, 99, 35, 99, 64, 100, 58, 101]⟩ : ByteArray), false⟩ : S22), (⟨(⟨#[97, 58, 98, 35, 99, 64, 100, 58, 101, 64, 102]⟩ : ByteArray), false⟩ : S22), (⟨(⟨#[58, 98, 35, 99, 64, 100, 58, 101]⟩ : ByteArray), false⟩ : S22), (⟨(⟨#[97, 58, 35, 99, 64, 100, 58, 101]⟩ : ByteArray), false⟩ : S22), (⟨(⟨#[97, 58, 98, 35, 64, 100, 58, 101]⟩ : ByteArray), false⟩ : S22), (⟨(⟨#[97, 58, 98, 35, 99, 64, 58, 101]⟩ : ByteArray), false⟩ : S22), (⟨(⟨#[97, 58, 98, 35, 99, 64, 100, 58]⟩ : ByteArray), false⟩ : S22), (⟨(⟨#[65, 58, 98, 35, 99, 64, 100, 58, 101]⟩ : ByteArray), false⟩ : S22), (⟨(⟨#[97, 58, 98, 32, 99, 35, 99, 64, 100, 58, 101]⟩ : ByteArray), false⟩ : S22), (⟨(⟨#[97, 58, 98, 35, 99, 47, 100, 64, 100, 58, 101]⟩ : ByteArray), false⟩ : S22), (⟨(⟨#[32, 97, 58, 98, 35, 99, 64, 100, 58, 101]⟩ : ByteArray), false⟩ : S22), (⟨(⟨#[97, 58, 98, 35, 99, 64, 100, 58, 101, 32]⟩ : ByteArray), false⟩ : S22)] : List (S22)) : List (S22))).bind fun y439 => (if (y439.length : Int) = 0 then (none) else (if 0 ≤ (Int.tmod (Go.bits .and .i64 a0 255) (y439.length : Int)) then (if (Int.tmod (Go.bits .and .i64 a0 255) (y439.length : Int)) < (y439.length : Int) then ((tupl_Parse.f k ((rd_T22 y439 (Int.tmod (Go.bits .and .i64 a0 255) (y439.length : Int))).f0)).bind fun bt444 => (if (bt444.2.2.2.2.2.2 == ((rd_T22 y439 (Int.tmod (Go.bits .and .i64 a0 255) (y439.length : Int))).f1)) = true then ((tupl_Text.f k bt444.1 bt444.2.1 bt444.2.2.1 bt444.2.2.2.1 bt444.2.2.2.2.1 bt444.2.2.2.2.2.1).bind fun t452 => (if bt444.2.2.2.2.2.2 = true then (if ((t452.toList == ((rd_T22 y439 (Int.tmod (Go.bits .and .i64 a0 255) (y439.length : Int))).f0).toList) == true) = true then ((entaillaw2_awake.f k).bind fun t453 => (some t453)) else (none)) else (if ((t452.toList == ((rd_T22 y439 (Int.tmod (Go.bits .and .i64 a0 255) (y439.length : Int))).f0).toList) == (((rd_T22 y439 (Int.tmod (Go.bits .and .i64 a0 255) (y439.length : Int))).f0).toList == ([] : List UInt8))) = true then (if ((bt444.1.toList == ([] : List UInt8) && (bt444.2.1.toList == ([] : List UInt8))) && (bt444.2.2.1.toList == ([] : List UInt8) && ((bt444.2.2.2.1.toList == ([] : List UInt8) && (bt444.2.2.2.2.1.toList == ([] : List UInt8) && (bt444.2.2.2.2.2.1.toList == ([] : List UInt8))))))) = true then ((entaillaw2_awake.f k).bind fun t454 => (some t454)) else (none)) else (none)))) else (none))) else (none)) else (none)))) = some r := h
  clear h
  obtain ⟨y439, hy439⟩ : ∃ y_ : List (S22), y_ = (([(⟨(⟨#[97, 58, 98, 35, 99, 64, 100, 58, 101]⟩ : ByteArray), true⟩ : S22), (⟨(⟨#[97, 58, 98, 35, 99, 64, 100, 58, 101, 35, 102]⟩ : ByteArray), true⟩ : S22), (⟨(⟨#[97, 58, 98, 47, 99, 124, 42, 35, 99, 64, 100, 58, 101]⟩ : ByteArray), true⟩ : S22), (⟨(⟨#[]⟩ : ByteArray), false⟩ : S22), (⟨(⟨#[97, 58, 98, 35, 99, 64, 100]⟩ : ByteArray), false⟩ : S22), (⟨(⟨#[97, 58, 98, 64, 100, 58, 101]⟩ : ByteArray), false⟩ : S22), (⟨(⟨#[97, 35, 99, 64, 100, 58, 101]⟩ : ByteArray), false⟩ : S22), (⟨(⟨#[97, 58, 98, 35, 99, 64, 100, 58, 101, 35]⟩ : ByteArray), false⟩ : S22), (⟨(⟨#[97, 58, 98, 35, 99, 64, 100, 58, 101, 35, 102, 35, 103]⟩ : ByteArray), false⟩ : S22), (⟨(⟨#[97, 58, 98, 58, 99, 35, 99, 64, 100, 58, 101]⟩ : ByteArray), false⟩ : S22), (⟨(⟨#[97, 58, 98, 35, 99, 64, 100, 58, 101, 64, 102]⟩ : ByteArray), false⟩ : S22), (⟨(⟨#[58, 98, 35, 99, 64, 100, 58, 101]⟩ : ByteArray), false⟩ : S22), (⟨(⟨#[97, 58, 35, 99, 64, 100, 58, 101]⟩ : ByteArray), false⟩ : S22), (⟨(⟨#[97, 58, 98, 35, 64, 100, 58, 101]⟩ : ByteArray), false⟩ : S22), (⟨(⟨#[97, 58, 98, 35, 99, 64, 58, 101]⟩ : ByteArray), false⟩ : S22), (⟨(⟨#[97, 58, 98, 35, 99, 64, 100, 58]⟩ : ByteArray), false⟩ : S22), (⟨(⟨#[65, 58, 98, 35, 99, 64, 100, 58, 101]⟩ : ByteArray), false⟩ : S22), (⟨(⟨#[97, 58, 98, 32, 99, 35, 99, 64, 100, 58, 101]⟩ : ByteArray), false⟩ : S22), (⟨(⟨#[97, 58, 98, 35, 99, 47, 100, 64, 100, 58, 101]⟩ : ByteArray), false⟩ : S22), (⟨(⟨#[32, 97, 58, 98, 35, 99, 64, 100, 58, 101]⟩ : ByteArray), false⟩ : S22), (⟨(⟨#[97, 58, 98, 35, 99, 64, 100, 58, 101, 32]⟩ : ByteArray), false⟩ : S22)] : List (S22))) := ⟨_, rfl⟩
  replace H : (if (y439.length : Int) = 0 then (none) else (if 0 ≤ (Int.tmod (Go.bits .and .i64 a0 255) (y439.length : Int)) then (if (Int.tmod (Go.bits .and .i64 a0 255) (y439.length : Int)) < (y439.length : Int) then ((tupl_Parse.f k ((rd_T22 y439 (Int.tmod (Go.bits .and .i64 a0 255) (y439.length : Int))).f0)).bind fun bt444 => (if (bt444.2.2.2.2.2.2 == ((rd_T22 y439 (Int.tmod (Go.bits .and .i64 a0 255) (y439.length : Int))).f1)) = true then ((tupl_Text.f k bt444.1 bt444.2.1 bt444.2.2.1 bt444.2.2.2.1 bt444.2.2.2.2.1 bt444.2.2.2.2.2.1).bind fun t452 => (if bt444.2.2.2.2.2.2 = true then (if ((t452.toList == ((rd_T22 y439 (Int.tmod (Go.bits .and .i64 a0 255) (y439.length : Int))).f0).toList) == true) = true then ((entaillaw2_awake.f k).bind fun t453 => (some t453)) else (none)) else (if ((t452.toList == ((rd_T22 y439 (Int.tmod (Go.bits .and .i64 a0 255) (y439.length : Int))).f0).toList) == (((rd_T22 y439 (Int.tmod (Go.bits .and .i64 a0 255) (y439.length : Int))).f0).toList == ([] : List UInt8))) = true then (if ((bt444.1.toList == ([] : List UInt8) && (bt444.2.1.toList == ([] : List UInt8))) && (bt444.2.2.1.toList == ([] : List UInt8) && ((bt444.2.2.2.1.toList == ([] : List UInt8) && (bt444.2.2.2.2.1.toList == ([] : List UInt8) && (bt444.2.2.2.2.2.1.toList == ([] : List UInt8))))))) = true then ((entaillaw2_awake.f k).bind fun t454 => (some t454)) else (none)) else (none)))) else (none))) else (none)) else (none))) = some r := by first | (rw [hy439]; with_reducible exact H) | (have H2_ := (Option.bind_some _ _).symm.trans H; rw [hy439]; with_reducible exact H2_) | (have H2_ := (Option.bind_some _ _).symm.trans H; with_reducible exact H2_) | with_reducible exact H | (rw [hy439]; exact H) | exact H
  have Ny439 := Aside0.mk hy439
  clear hy439
  by_cases c2 : (y439.length : Int) = 0
  · rw [if_pos c2] at H
    exact absurd H (by simp)
  · rw [if_neg c2] at H
    have c2b0 : ((y439.length : Int) == 0) = false := beq_eq_false_iff_ne.mpr c2
    have c2b1 : ((y439.length : Int) != 0) = true := bne_iff_ne.mpr c2
    have c2b2 : ¬ (y439 = []) := fun h_ => c2 (by rw [h_]; rfl)
    obtain ⟨ji3, hji3⟩ : ∃ j_ : Int, (Int.tmod (Go.bits .and .i64 a0 255) (y439.length : Int)) = j_ := ⟨_, rfl⟩
    replace H : (if 0 ≤ (ji3) then (if (ji3) < (y439.length : Int) then ((tupl_Parse.f k ((rd_T22 y439 (ji3)).f0)).bind fun bt444 => (if (bt444.2.2.2.2.2.2 == ((rd_T22 y439 (ji3)).f1)) = true then ((tupl_Text.f k bt444.1 bt444.2.1 bt444.2.2.1 bt444.2.2.2.1 bt444.2.2.2.2.1 bt444.2.2.2.2.2.1).bind fun t452 => (if bt444.2.2.2.2.2.2 = true then (if ((t452.toList == ((rd_T22 y439 (ji3)).f0).toList) == true) = true then ((entaillaw2_awake.f k).bind fun t453 => (some t453)) else (none)) else (if ((t452.toList == ((rd_T22 y439 (ji3)).f0).toList) == (((rd_T22 y439 (ji3)).f0).toList == ([] : List UInt8))) = true then (if ((bt444.1.toList == ([] : List UInt8) && (bt444.2.1.toList == ([] : List UInt8))) && (bt444.2.2.1.toList == ([] : List UInt8) && ((bt444.2.2.2.1.toList == ([] : List UInt8) && (bt444.2.2.2.2.1.toList == ([] : List UInt8) && (bt444.2.2.2.2.2.1.toList == ([] : List UInt8))))))) = true then ((entaillaw2_awake.f k).bind fun t454 => (some t454)) else (none)) else (none)))) else (none))) else (none)) else (none)) = some r := by first | (rw [hji3] at H; exact H) | (simp only [hji3] at H ⊢; exact H)
    by_cases c4 : 0 ≤ (ji3)
    · rw [if_pos c4] at H
      have c4b0 : decide (0 ≤ (ji3)) = true := decide_eq_true c4
      clear c4
      by_cases c5 : (ji3) < (y439.length : Int)
      · rw [if_pos c5] at H
        have c5b0 : decide ((ji3) < (y439.length : Int)) = true := decide_eq_true c5
        clear c5
        replace H := Option.bind_eq_some_iff.mp H
        obtain ⟨⟨t444, t445, t446, t447, t448, t449, t450⟩, A60, H⟩ := H
        replace H : (if (t450 == ((rd_T22 y439 (ji3)).f1)) = true then ((tupl_Text.f k t444 t445 t446 t447 t448 t449).bind fun t452 => (if t450 = true then (if ((t452.toList == ((rd_T22 y439 (ji3)).f0).toList) == true) = true then ((entaillaw2_awake.f k).bind fun t453 => (some t453)) else (none)) else (if ((t452.toList == ((rd_T22 y439 (ji3)).f0).toList) == (((rd_T22 y439 (ji3)).f0).toList == ([] : List UInt8))) = true then (if ((t444.toList == ([] : List UInt8) && (t445.toList == ([] : List UInt8))) && (t446.toList == ([] : List UInt8) && ((t447.toList == ([] : List UInt8) && (t448.toList == ([] : List UInt8) && (t449.toList == ([] : List UInt8))))))) = true then ((entaillaw2_awake.f k).bind fun t454 => (some t454)) else (none)) else (none)))) else (none)) = some r := H
        have A6 := Aside0.mk A60
        clear A60
        by_cases c7 : (t450 == ((rd_T22 y439 (ji3)).f1)) = true
        · rw [if_pos c7] at H
          have c7b0 : (t450 == ((rd_T22 y439 (ji3)).f1)) = true := c7
          (try (have c7b1 : decide (t450 = ((rd_T22 y439 (ji3)).f1)) = true := by simpa using c7))
          (try (have c7b2 : (t450 == ((rd_T22 y439 (ji3)).f1)) = true := by simpa using c7))
          clear c7
          replace H := Option.bind_eq_some_iff.mp H
          obtain ⟨t452, A80, H⟩ := H
          replace H : (if t450 = true then (if ((t452.toList == ((rd_T22 y439 (ji3)).f0).toList) == true) = true then ((entaillaw2_awake.f k).bind fun t453 => (some t453)) else (none)) else (if ((t452.toList == ((rd_T22 y439 (ji3)).f0).toList) == (((rd_T22 y439 (ji3)).f0).toList == ([] : List UInt8))) = true then (if ((t444.toList == ([] : List UInt8) && (t445.toList == ([] : List UInt8))) && (t446.toList == ([] : List UInt8) && ((t447.toList == ([] : List UInt8) && (t448.toList == ([] : List UInt8) && (t449.toList == ([] : List UInt8))))))) = true then ((entaillaw2_awake.f k).bind fun t454 => (some t454)) else (none)) else (none))) = some r := H
          have A8 := Aside0.mk A80
          clear A80
          by_cases c9 : t450 = true
          · subst c9
            have H1 : (if ((t452.toList == ((rd_T22 y439 (ji3)).f0).toList) == true) = true then ((entaillaw2_awake.f k).bind fun t453 => (some t453)) else (none)) = some r := by rw [if_pos rfl] at H; exact H
            clear H
            have H := H1
            clear H1
            by_cases c10 : ((t452.toList == ((rd_T22 y439 (ji3)).f0).toList) == true) = true
            · rw [if_pos c10] at H
              have c10b0 : ((t452.toList == ((rd_T22 y439 (ji3)).f0).toList) == true) = true := c10
              (try (have c10b1 : decide ((t452.toList == ((rd_T22 y439 (ji3)).f0).toList) = true) = true := by simpa using c10))
              (try (have c10b2 : ((t452.toList == ((rd_T22 y439 (ji3)).f0).toList) == true) = true := by simpa using c10))
              clear c10
              replace H := Option.bind_eq_some_iff.mp H
              obtain ⟨t453, A110, H⟩ := H
              replace H : (some t453) = some r := H
              have A11 := Aside0.mk A110
              clear A110
              obtain rfl := Option.some.inj H
              go_enter Try.func3, Try.ntmps3
              try go_wp2_with (first | ((with_reducible refine gate_dst (N := 28) rfl ?_); refine Kd.R_lit k22 _ 22 ?hg (N := 28) ?hd (xs := ([(⟨(⟨#[97, 58, 98, 35, 99, 64, 100, 58, 101]⟩ : ByteArray), true⟩ : S22), (⟨(⟨#[97, 58, 98, 35, 99, 64, 100, 58, 101, 35, 102]⟩ : ByteArray), true⟩ : S22), (⟨(⟨#[97, 58, 98, 47, 99, 124, 42, 35, 99, 64, 100, 58, 101]⟩ : ByteArray), true⟩ : S22), (⟨(⟨#[]⟩ : ByteArray), false⟩ : S22), (⟨(⟨#[97, 58, 98, 35, 99, 64, 100]⟩ : ByteArray), false⟩ : S22), (⟨(⟨#[97, 58, 98, 64, 100, 58, 101]⟩ : ByteArray), false⟩ : S22), (⟨(⟨#[97, 35, 99, 64, 100, 58, 101]⟩ : ByteArray), false⟩ : S22), (⟨(⟨#[97, 58, 98, 35, 99, 64, 100, 58, 101, 35]⟩ : ByteArray), false⟩ : S22), (⟨(⟨#[97, 58, 98, 35, 99, 64, 100, 58, 101, 35, 102, 35, 103]⟩ : ByteArray), false⟩ : S22), (⟨(⟨#[97, 58, 98, 58, 99, 35, 99, 64, 100, 58, 101]⟩ : ByteArray), false⟩ : S22), (⟨(⟨#[97, 58, 98, 35, 99, 64, 100, 58, 101, 64, 102]⟩ : ByteArray), false⟩ : S22), (⟨(⟨#[58, 98, 35, 99, 64, 100, 58, 101]⟩ : ByteArray), false⟩ : S22), (⟨(⟨#[97, 58, 35, 99, 64, 100, 58, 101]⟩ : ByteArray), false⟩ : S22), (⟨(⟨#[97, 58, 98, 35, 64, 100, 58, 101]⟩ : ByteArray), false⟩ : S22), (⟨(⟨#[97, 58, 98, 35, 99, 64, 58, 101]⟩ : ByteArray), false⟩ : S22), (⟨(⟨#[97, 58, 98, 35, 99, 64, 100, 58]⟩ : ByteArray), false⟩ : S22), (⟨(⟨#[65, 58, 98, 35, 99, 64, 100, 58, 101]⟩ : ByteArray), false⟩ : S22), (⟨(⟨#[97, 58, 98, 32, 99, 35, 99, 64, 100, 58, 101]⟩ : ByteArray), false⟩ : S22), (⟨(⟨#[97, 58, 98, 35, 99, 47, 100, 64, 100, 58, 101]⟩ : ByteArray), false⟩ : S22), (⟨(⟨#[32, 97, 58, 98, 35, 99, 64, 100, 58, 101]⟩ : ByteArray), false⟩ : S22), (⟨(⟨#[97, 58, 98, 35, 99, 64, 100, 58, 101, 32]⟩ : ByteArray), false⟩ : S22)] : List (S22))) (inner := [.string (⟨#[97, 58, 98, 35, 99, 64, 100, 58, 101]⟩ : ByteArray), .bool true, .string (⟨#[97, 58, 98, 35, 99, 64, 100, 58, 101, 35, 102]⟩ : ByteArray), .bool true, .string (⟨#[97, 58, 98, 47, 99, 124, 42, 35, 99, 64, 100, 58, 101]⟩ : ByteArray), .bool true, .string (⟨#[]⟩ : ByteArray), .bool false, .string (⟨#[97, 58, 98, 35, 99, 64, 100]⟩ : ByteArray), .bool false, .string (⟨#[97, 58, 98, 64, 100, 58, 101]⟩ : ByteArray), .bool false, .string (⟨#[97, 35, 99, 64, 100, 58, 101]⟩ : ByteArray), .bool false, .string (⟨#[97, 58, 98, 35, 99, 64, 100, 58, 101, 35]⟩ : ByteArray), .bool false, .string (⟨#[97, 58, 98, 35, 99, 64, 100, 58, 101, 35, 102, 35, 103]⟩ : ByteArray), .bool false, .string (⟨#[97, 58, 98, 58, 99, 35, 99, 64, 100, 58, 101]⟩ : ByteArray), .bool false, .string (⟨#[97, 58, 98, 35, 99, 64, 100, 58, 101, 64, 102]⟩ : ByteArray), .bool false, .string (⟨#[58, 98, 35, 99, 64, 100, 58, 101]⟩ : ByteArray), .bool false, .string (⟨#[97, 58, 35, 99, 64, 100, 58, 101]⟩ : ByteArray), .bool false, .string (⟨#[97, 58, 98, 35, 64, 100, 58, 101]⟩ : ByteArray), .bool false, .string (⟨#[97, 58, 98, 35, 99, 64, 58, 101]⟩ : ByteArray), .bool false, .string (⟨#[97, 58, 98, 35, 99, 64, 100, 58]⟩ : ByteArray), .bool false, .string (⟨#[65, 58, 98, 35, 99, 64, 100, 58, 101]⟩ : ByteArray), .bool false, .string (⟨#[97, 58, 98, 32, 99, 35, 99, 64, 100, 58, 101]⟩ : ByteArray), .bool false, .string (⟨#[97, 58, 98, 35, 99, 47, 100, 64, 100, 58, 101]⟩ : ByteArray), .bool false, .string (⟨#[32, 97, 58, 98, 35, 99, 64, 100, 58, 101]⟩ : ByteArray), .bool false, .string (⟨#[97, 58, 98, 35, 99, 64, 100, 58, 101, 32]⟩ : ByteArray), .bool false]) (ok := fun _ => True) (okp := fun _ => True) ?hr ?hp (fun _ hk => hk) trivial (Below.refl _ _) (Nat.le_refl _) (by simp) ?_; (case hd => rfl); (case hg => rfl); (case hr => first | (go_simp; done) | (go_simp; rfl)); (case hp => exact (Reps.c2 (show Kd.M k22 _ _ _ (⟨(⟨#[97, 58, 98, 35, 99, 64, 100, 58, 101]⟩ : ByteArray), true⟩ : S22) [.string (⟨#[97, 58, 98, 35, 99, 64, 100, 58, 101]⟩ : ByteArray), .bool true] from (k22_mkM _ _ _ (⟨(⟨#[97, 58, 98, 35, 99, 64, 100, 58, 101]⟩ : ByteArray), true⟩ : S22) )) (Reps.c2 (show Kd.M k22 _ _ _ (⟨(⟨#[97, 58, 98, 35, 99, 64, 100, 58, 101, 35, 102]⟩ : ByteArray), true⟩ : S22) [.string (⟨#[97, 58, 98, 35, 99, 64, 100, 58, 101, 35, 102]⟩ : ByteArray), .bool true] from (k22_mkM _ _ _ (⟨(⟨#[97, 58, 98, 35, 99, 64, 100, 58, 101, 35, 102]⟩ : ByteArray), true⟩ : S22) )) (Reps.c2 (show Kd.M k22 _ _ _ (⟨(⟨#[97, 58, 98, 47, 99, 124, 42, 35, 99, 64, 100, 58, 101]⟩ : ByteArray), true⟩ : S22) [.string (⟨#[97, 58, 98, 47, 99, 124, 42, 35, 99, 64, 100, 58, 101]⟩ : ByteArray), .bool true] from (k22_mkM _ _ _ (⟨(⟨#[97, 58, 98, 47, 99, 124, 42, 35, 99, 64, 100, 58, 101]⟩ : ByteArray), true⟩ : S22) )) (Reps.c2 (show Kd.M k22 _ _ _ (⟨(⟨#[]⟩ : ByteArray), false⟩ : S22) [.string (⟨#[]⟩ : ByteArray), .bool false] from (k22_mkM _ _ _ (⟨(⟨#[]⟩ : ByteArray), false⟩ : S22) )) (Reps.c2 (show Kd.M k22 _ _ _ (⟨(⟨#[97, 58, 98, 35, 99, 64, 100]⟩ : ByteArray), false⟩ : S22) [.string (⟨#[97, 58, 98, 35, 99, 64, 100]⟩ : ByteArray), .bool false] from (k22_mkM _ _ _ (⟨(⟨#[97, 58, 98, 35, 99, 64, 100]⟩ : ByteArray), false⟩ : S22) )) (Reps.c2 (show Kd.M k22 _ _ _ (⟨(⟨#[97, 58, 98, 64, 100, 58, 101]⟩ : ByteArray), false⟩ : S22) [.string (⟨#[97, 58, 98, 64, 100, 58, 101]⟩ : ByteArray), .bool false] from (k22_mkM _ _ _ (⟨(⟨#[97, 58, 98, 64, 100, 58, 101]⟩ : ByteArray), false⟩ : S22) )) (Reps.c2 (show Kd.M k22 _ _ _ (⟨(⟨#[97, 35, 99, 64, 100, 58, 101]⟩ : ByteArray), false⟩ : S22) [.string (⟨#[97, 35, 99, 64, 100, 58, 101]⟩ : ByteArray), .bool false] from (k22_mkM _ _ _ (⟨(⟨#[97, 35, 99, 64, 100, 58, 101]⟩ : ByteArray), false⟩ : S22) )) (Reps.c2 (show Kd.M k22 _ _ _ (⟨(⟨#[97, 58, 98, 35, 99, 64, 100, 58, 101, 35]⟩ : ByteArray), false⟩ : S22) [.string (⟨#[97, 58, 98, 35, 99, 64, 100, 58, 101, 35]⟩ : ByteArray), .bool false] from (k22_mkM _ _ _ (⟨(⟨#[97, 58, 98, 35, 99, 64, 100, 58, 101, 35]⟩ : ByteArray), false⟩ : S22) )) (Reps.c2 (show Kd.M k22 _ _ _ (⟨(⟨#[97, 58, 98, 35, 99, 64, 100, 58, 101, 35, 102, 35, 103]⟩ : ByteArray), false⟩ : S22) [.string (⟨#[97, 58, 98, 35, 99, 64, 100, 58, 101, 35, 102, 35, 103]⟩ : ByteArray), .bool false] from (k22_mkM _ _ _ (⟨(⟨#[97, 58, 98, 35, 99, 64, 100, 58, 101, 35, 102, 35, 103]⟩ : ByteArray), false⟩ : S22) )) (Reps.c2 (show Kd.M k22 _ _ _ (⟨(⟨#[97, 58, 98, 58, 99, 35, 99, 64, 100, 58, 101]⟩ : ByteArray), false⟩ : S22) [.string (⟨#[97, 58, 98, 58, 99, 35, 99, 64, 100, 58, 101]⟩ : ByteArray), .bool false] from (k22_mkM _ _ _ (⟨(⟨#[97, 58, 98, 58, 99, 35, 99, 64, 100, 58, 101]⟩ : ByteArray), false⟩ : S22) )) (Reps.c2 (show Kd.M k22 _ _ _ (⟨(⟨#[97, 58, 98, 35, 99, 64, 100, 58, 101, 64, 102]⟩ : ByteArray), false⟩ : S22) [.string (⟨#[97, 58, 98, 35, 99, 64, 100, 58, 101, 64, 102]⟩ : ByteArray), .bool false] from (k22_mkM _ _ _ (⟨(⟨#[97, 58, 98, 35, 99, 64, 100, 58, 101, 64, 102]⟩ : ByteArray), false⟩ : S22) )) (Reps.c2 (show Kd.M k22 _ _ _ (⟨(⟨#[58, 98, 35, 99, 64, 100, 58, 101]⟩ : ByteArray), false⟩ : S22) [.string (⟨#[58, 98, 35, 99, 64, 100, 58, 101]⟩ : ByteArray), .bool false] from (k22_mkM _ _ _ (⟨(⟨#[58, 98, 35, 99, 64, 100, 58, 101]⟩ : ByteArray), false⟩ : S22) )) (Reps.c2 (show Kd.M k22 _ _ _ (⟨(⟨#[97, 58, 35, 99, 64, 100, 58, 101]⟩ : ByteArray), false⟩ : S22) [.string (⟨#[97, 58, 35, 99, 64, 100, 58, 101]⟩ : ByteArray), .bool false] from (k22_mkM _ _ _ (⟨(⟨#[97, 58, 35, 99, 64, 100, 58, 101]⟩ : ByteArray), false⟩ : S22) )) (Reps.c2 (show Kd.M k22 _ _ _ (⟨(⟨#[97, 58, 98, 35, 64, 100, 58, 101]⟩ : ByteArray), false⟩ : S22) [.string (⟨#[97, 58, 98, 35, 64, 100, 58, 101]⟩ : ByteArray), .bool false] from (k22_mkM _ _ _ (⟨(⟨#[97, 58, 98, 35, 64, 100, 58, 101]⟩ : ByteArray), false⟩ : S22) )) (Reps.c2 (show Kd.M k22 _ _ _ (⟨(⟨#[97, 58, 98, 35, 99, 64, 58, 101]⟩ : ByteArray), false⟩ : S22) [.string (⟨#[97, 58, 98, 35, 99, 64, 58, 101]⟩ : ByteArray), .bool false] from (k22_mkM _ _ _ (⟨(⟨#[97, 58, 98, 35, 99, 64, 58, 101]⟩ : ByteArray), false⟩ : S22) )) (Reps.c2 (show Kd.M k22 _ _ _ (⟨(⟨#[97, 58, 98, 35, 99, 64, 100, 58]⟩ : ByteArray), false⟩ : S22) [.string (⟨#[97, 58, 98, 35, 99, 64, 100, 58]⟩ : ByteArray), .bool false] from (k22_mkM _ _ _ (⟨(⟨#[97, 58, 98, 35, 99, 64, 100, 58]⟩ : ByteArray), false⟩ : S22) )) (Reps.c2 (show Kd.M k22 _ _ _ (⟨(⟨#[65, 58, 98, 35, 99, 64, 100, 58, 101]⟩ : ByteArray), false⟩ : S22) [.string (⟨#[65, 58, 98, 35, 99, 64, 100, 58, 101]⟩ : ByteArray), .bool false] from (k22_mkM _ _ _ (⟨(⟨#[65, 58, 98, 35, 99, 64, 100, 58, 101]⟩ : ByteArray), false⟩ : S22) )) (Reps.c2 (show Kd.M k22 _ _ _ (⟨(⟨#[97, 58, 98, 32, 99, 35, 99, 64, 100, 58, 101]⟩ : ByteArray), false⟩ : S22) [.string (⟨#[97, 58, 98, 32, 99, 35, 99, 64, 100, 58, 101]⟩ : ByteArray), .bool false] from (k22_mkM _ _ _ (⟨(⟨#[97, 58, 98, 32, 99, 35, 99, 64, 100, 58, 101]⟩ : ByteArray), false⟩ : S22) )) (Reps.c2 (show Kd.M k22 _ _ _ (⟨(⟨#[97, 58, 98, 35, 99, 47, 100, 64, 100, 58, 101]⟩ : ByteArray), false⟩ : S22) [.string (⟨#[97, 58, 98, 35, 99, 47, 100, 64, 100, 58, 101]⟩ : ByteArray), .bool false] from (k22_mkM _ _ _ (⟨(⟨#[97, 58, 98, 35, 99, 47, 100, 64, 100, 58, 101]⟩ : ByteArray), false⟩ : S22) )) (Reps.c2 (show Kd.M k22 _ _ _ (⟨(⟨#[32, 97, 58, 98, 35, 99, 64, 100, 58, 101]⟩ : ByteArray), false⟩ : S22) [.string (⟨#[32, 97, 58, 98, 35, 99, 64, 100, 58, 101]⟩ : ByteArray), .bool false] from (k22_mkM _ _ _ (⟨(⟨#[32, 97, 58, 98, 35, 99, 64, 100, 58, 101]⟩ : ByteArray), false⟩ : S22) )) (Reps.c2 (show Kd.M k22 _ _ _ (⟨(⟨#[97, 58, 98, 35, 99, 64, 100, 58, 101, 32]⟩ : ByteArray), false⟩ : S22) [.string (⟨#[97, 58, 98, 35, 99, 64, 100, 58, 101, 32]⟩ : ByteArray), .bool false] from (k22_mkM _ _ _ (⟨(⟨#[97, 58, 98, 35, 99, 64, 100, 58, 101, 32]⟩ : ByteArray), false⟩ : S22) )) (Reps.none _ _))))))))))))))))))))))); intro v440 w12 ho13 hb hg_ hnew_; clear hg_ hnew_; (first | rw [← Ny439.out] at ho13 | (simp only [Int.reduceToNat] at ho13; rw [← Ny439.out] at ho13)); have n0_ := Aside0.mk (Kd.R_lower ho13 (below_size (by repeat (first | (with_reducible first | exact HB.out | apply below_alloc | apply pw_below_drewN | apply below_drew1) | exact HB.out)))); have n1_ := Aside0.mk (below_step (by repeat (first | (with_reducible first | exact HB.out | apply below_alloc | apply pw_below_drewN | apply below_drew1) | exact HB.out)) hb); clear HB; have HO441 := n0_; have HB := n1_; clear n0_ n1_; clear hb ho13; obtain ⟨Ao14, co14, eo14⟩ := Kd.R_slice HO441.out; subst eo14; have p442 : 0 ≤ ((ji3) : Int) := of_decide_eq_true (by first | (with_reducible assumption) | assumption); have q442 : (ji3) < (y439.length : Int) := of_decide_eq_true (by first | (with_reducible assumption) | assumption); obtain ⟨ad442, e442, hx442_0, hx442_1⟩ := at_T22 (Kd.R_reads' HO441.out).2.2 (ji3) p442 q442; cases e442; replace p442 := eq_true p442; replace q442 := eq_true q442) | ((with_reducible refine gate_dst (N := 4) rfl ?_); refine box_event ?hg (N := 4) ?hd (cs := #[.string (⟨#[]⟩ : ByteArray), .bool false]) (t := 22) ?hr ?_; (case hd => rfl); (case hg => rfl); (case hr => first | (go_simp; done) | (go_simp; rfl)); intro gb443 hg w15 hbox hb; have n0_ := Aside0.mk (Kd.R_below (Kd.R_elderB (by (with_reducible repeat (first | apply Kd.R_alloc | apply Kd.R_drewN | apply Kd.R_drew)); exact HO441.out) gb443 (Nat.le_of_eq hg.symm)) hb); have n1_ := Aside0.mk (below_step (by repeat (first | (with_reducible first | exact HB.out | apply below_alloc | apply pw_below_drewN | apply below_drew1) | exact HB.out)) hb); have n2_ := Aside0.mk (hbox); have n3_ := Aside0.mk ((by rw [hg]; exact (below_size (by repeat (first | (with_reducible first | exact HB.out | apply below_alloc | apply pw_below_drewN | apply below_drew1) | exact HB.out))) : w.heap.size ≤ gb443)); have n4_ := Aside0.mk ((by rw [hg]; exact (below_size (by repeat (first | (with_reducible first | exact HB.out | apply below_alloc | apply pw_below_drewN | apply below_drew1) | exact HB.out))) : w.heap.size ≤ gb443)); clear HO441; clear HB; have HO441 := n0_; have HB := n1_; have BK443 := n2_; have GW443 := n3_; have GE443 := n4_; clear n0_ n1_ n2_ n3_ n4_; clear hb hbox hg; have hcz16_0 : w15.cell? ⟨gb443, 0, none⟩ = some (.string (⟨#[]⟩ : ByteArray)) := (blk_cell BK443.out 0).trans rfl; have hcz16_1 : w15.cell? ⟨gb443, 1, none⟩ = some (.bool false) := (blk_cell BK443.out 1).trans rfl; have hfz16_0 := blk_frozen BK443.out 0; have hfz16_1 := blk_frozen BK443.out 1) | ((with_reducible refine gate_callee (f := 12) rfl ?_); refine goesL_ (some 40) rfl rfl Try.func12 (by kernel_rfl) rfl #[.string ((rd_T22 y439 (ji3)).f0)] rfl (by (try simp only [List.map_toArray, List.map_cons, List.map_nil]); first | done | (simp only [hji3]; rfl) | rfl | (simp only [List.length_drop, List.length_take]; rfl)) ?_; (with_reducible refine (tupl_Parse.calls k ((rd_T22 y439 (ji3)).f0) t444 t445 t446 t447 t448 t449 true _ A6.out).mono ?_); rintro e w17 ⟨rfl, hb⟩; refine ⟨_, rfl, ?_⟩; have n0_ := Aside0.mk (Kd.R_below (by (with_reducible repeat (first | apply Kd.R_alloc | apply Kd.R_drewN | apply Kd.R_drew)); exact (Kd.R_mono (Kd.R_far (p := ⟨gb443, 1, none⟩) (Kd.R_far (p := ⟨gb443, 0, none⟩) (Kd.R_mono HO441.out (fun k_ hk => (⟨hk, hk.2⟩ : _ ∧ k_ ≠ gb443))) (fun _ hk => hk.2) (.string ((rd_T22 y439 (ji3)).f0))) (fun _ hk => hk.2) (.bool ((rd_T22 y439 (ji3)).f1))) (fun _ h_ => h_.1))) hb); have n1_ := Aside0.mk (blk_below (g := gb443) (o := .cells #[.string ((rd_T22 y439 (ji3)).f0), .bool ((rd_T22 y439 (ji3)).f1)] 22 (0, 0)) (by (with_reducible repeat (first | refine blk_drewN ?_ _ | refine blk_drew ?_ | refine blk_alloc ?_ _)); refine blk_put (cs := #[.string ((rd_T22 y439 (ji3)).f0), .bool false]) ?_ 1 _ rfl; (with_reducible repeat (first | refine blk_drewN ?_ _ | refine blk_drew ?_ | refine blk_alloc ?_ _)); refine blk_put (cs := #[.string (⟨#[]⟩ : ByteArray), .bool false]) ?_ 0 _ rfl; (with_reducible repeat (first | refine blk_drewN ?_ _ | refine blk_drew ?_ | refine blk_alloc ?_ _)); exact BK443.out) hb); have n2_ := Aside0.mk (below_step (by repeat (first | (with_reducible first | exact HB.out | apply below_alloc | apply pw_below_drewN | apply below_drew1 | refine below_set ?_ GE443.out) | exact HB.out)) hb); clear HO441; clear BK443; clear HB; have HO441 := n0_; have BK443 := n1_; have HB := n2_; clear n0_ n1_ n2_; (try clear hb); (try clear hb2); (try clear hk); (try clear hi)) | ((with_reducible refine gate_dst (N := 5) rfl ?_); refine box_event ?hg (N := 5) ?hd (cs := #[.string (⟨#[]⟩ : ByteArray), .string (⟨#[]⟩ : ByteArray), .string (⟨#[]⟩ : ByteArray), .string (⟨#[]⟩ : ByteArray), .string (⟨#[]⟩ : ByteArray), .string (⟨#[]⟩ : ByteArray)]) (t := 29) ?hr ?_; (case hd => rfl); (case hg => rfl); (case hr => first | (go_simp; done) | (go_simp; rfl)); intro gb451 hg w18 hbox hb; have n0_ := Aside0.mk (Kd.R_below (by (with_reducible repeat (first | apply Kd.R_alloc | apply Kd.R_drewN | apply Kd.R_drew)); exact HO441.out) hb); have n1_ := Aside0.mk (blk_below (g := gb443) (o := .cells #[.string ((rd_T22 y439 (ji3)).f0), .bool ((rd_T22 y439 (ji3)).f1)] 22 (0, 0)) (by (with_reducible repeat (first | refine blk_drewN ?_ _ | refine blk_drew ?_ | refine blk_alloc ?_ _)); exact BK443.out) hb); have n2_ := Aside0.mk (below_step (by repeat (first | (with_reducible first | exact HB.out | apply below_alloc | apply pw_below_drewN | apply below_drew1 | refine below_set ?_ GE443.out) | exact HB.out)) hb); have n3_ := Aside0.mk (hbox); have n4_ := Aside0.mk ((by rw [hg]; exact (below_size (by repeat (first | (with_reducible first | exact HB.out | apply below_alloc | apply pw_below_drewN | apply below_drew1 | refine below_set ?_ GE443.out) | exact HB.out))) : w.heap.size ≤ gb451)); have n5_ := Aside0.mk ((by rw [hg]; exact (below_size (by repeat (first | (with_reducible first | exact HB.out | apply below_alloc | apply pw_below_drewN | apply below_drew1 | refine below_set ?_ GE443.out) | exact HB.out))) : w.heap.size ≤ gb451)); have n6_ := Aside0.mk ((by rw [hg]; exact Nat.ne_of_lt (blk_lt (g := gb443) (o := .cells #[.string ((rd_T22 y439 (ji3)).f0), .bool ((rd_T22 y439 (ji3)).f1)] 22 (0, 0)) (by (with_reducible repeat (first | refine blk_drewN ?_ _ | refine blk_drew ?_ | refine blk_alloc ?_ _)); exact BK443.out)) : gb443 ≠ gb451)); have n7_ := Aside0.mk ((by rw [hg]; exact Nat.ne_of_gt (blk_lt (g := gb443) (o := .cells #[.string ((rd_T22 y439 (ji3)).f0), .bool ((rd_T22 y439 (ji3)).f1)] 22 (0, 0)) (by (with_reducible repeat (first | refine blk_drewN ?_ _ | refine blk_drew ?_ | refine blk_alloc ?_ _)); exact BK443.out)) : gb451 ≠ gb443)); clear HO441; clear BK443; clear HB; have HO441 := n0_; have BK443 := n1_; have HB := n2_; have BK451 := n3_; have GW451 := n4_; have GE451 := n5_; have NB443_451 := n6_; have NB451_443 := n7_; clear n0_ n1_ n2_ n3_ n4_ n5_ n6_ n7_; clear hb hbox hg; have hnb19 := NB451_443.out; have hnc19 := NB443_451.out; have hcz20_0 : w18.cell? ⟨gb451, 0, none⟩ = some (.string (⟨#[]⟩ : ByteArray)) := (blk_cell BK451.out 0).trans rfl; have hcz20_1 : w18.cell? ⟨gb451, 1, none⟩ = some (.string (⟨#[]⟩ : ByteArray)) := (blk_cell BK451.out 1).trans rfl; have hcz20_2 : w18.cell? ⟨gb451, 2, none⟩ = some (.string (⟨#[]⟩ : ByteArray)) := (blk_cell BK451.out 2).trans rfl; have hcz20_3 : w18.cell? ⟨gb451, 3, none⟩ = some (.string (⟨#[]⟩ : ByteArray)) := (blk_cell BK451.out 3).trans rfl; have hcz20_4 : w18.cell? ⟨gb451, 4, none⟩ = some (.string (⟨#[]⟩ : ByteArray)) := (blk_cell BK451.out 4).trans rfl; have hcz20_5 : w18.cell? ⟨gb451, 5, none⟩ = some (.string (⟨#[]⟩ : ByteArray)) := (blk_cell BK451.out 5).trans rfl; have hfz20_0 := blk_frozen BK451.out 0; have hfz20_1 := blk_frozen BK451.out 1; have hfz20_2 := blk_frozen BK451.out 2; have hfz20_3 := blk_frozen BK451.out 3; have hfz20_4 := blk_frozen BK451.out 4; have hfz20_5 := blk_frozen BK451.out 5))
              have n0_ : Aside0 (Kd.R k22 22 ((((((w18.setCell ⟨gb451, 0, none⟩ (.string t444)).setCell ⟨gb451, 1, none⟩ (.string t445)).setCell ⟨gb451, 2, none⟩ (.string t446)).setCell ⟨gb451, 3, none⟩ (.string t447)).setCell ⟨gb451, 4, none⟩ (.string t448)).setCell ⟨gb451, 5, none⟩ (.string t449)) w.heap.size (fun k_ => k_ ≠ gb443) (.slice (some ad442) y439.length co14) y439) := ⟨by (with_reducible repeat (first | apply Kd.R_alloc | apply Kd.R_drewN | apply Kd.R_drew)); exact Kd.R_mono (Kd.R_far (p := ⟨gb451, 5, none⟩) (Kd.R_far (p := ⟨gb451, 4, none⟩) (Kd.R_far (p := ⟨gb451, 3, none⟩) (Kd.R_far (p := ⟨gb451, 2, none⟩) (Kd.R_far (p := ⟨gb451, 1, none⟩) (Kd.R_far (p := ⟨gb451, 0, none⟩) (Kd.R_types HO441.out BK451.out (by decide)) (fun _ hk => hk.2) (.string t444)) (fun _ hk => hk.2) (.string t445)) (fun _ hk => hk.2) (.string t446)) (fun _ hk => hk.2) (.string t447)) (fun _ hk => hk.2) (.string t448)) (fun _ hk => hk.2) (.string t449)) (fun _ hk => hk.1.2)⟩
              have n1_ : Aside0 (((((((w18.setCell ⟨gb451, 0, none⟩ (.string t444)).setCell ⟨gb451, 1, none⟩ (.string t445)).setCell ⟨gb451, 2, none⟩ (.string t446)).setCell ⟨gb451, 3, none⟩ (.string t447)).setCell ⟨gb451, 4, none⟩ (.string t448)).setCell ⟨gb451, 5, none⟩ (.string t449)).heap[gb443]? = some (.cells #[.string ((rd_T22 y439 (ji3)).f0), .bool ((rd_T22 y439 (ji3)).f1)] 22 (0, 0))) := ⟨by (with_reducible repeat (first | refine blk_drewN ?_ _ | refine blk_drew ?_ | refine blk_alloc ?_ _)); refine blk_far ?_ NB443_451.out _; (with_reducible repeat (first | refine blk_drewN ?_ _ | refine blk_drew ?_ | refine blk_alloc ?_ _)); refine blk_far ?_ NB443_451.out _; (with_reducible repeat (first | refine blk_drewN ?_ _ | refine blk_drew ?_ | refine blk_alloc ?_ _)); refine blk_far ?_ NB443_451.out _; (with_reducible repeat (first | refine blk_drewN ?_ _ | refine blk_drew ?_ | refine blk_alloc ?_ _)); refine blk_far ?_ NB443_451.out _; (with_reducible repeat (first | refine blk_drewN ?_ _ | refine blk_drew ?_ | refine blk_alloc ?_ _)); refine blk_far ?_ NB443_451.out _; (with_reducible repeat (first | refine blk_drewN ?_ _ | refine blk_drew ?_ | refine blk_alloc ?_ _)); refine blk_far ?_ NB443_451.out _; (with_reducible repeat (first | refine blk_drewN ?_ _ | refine blk_drew ?_ | refine blk_alloc ?_ _)); exact BK443.out⟩
              have n2_ : Aside0 (((((((w18.setCell ⟨gb451, 0, none⟩ (.string t444)).setCell ⟨gb451, 1, none⟩ (.string t445)).setCell ⟨gb451, 2, none⟩ (.string t446)).setCell ⟨gb451, 3, none⟩ (.string t447)).setCell ⟨gb451, 4, none⟩ (.string t448)).setCell ⟨gb451, 5, none⟩ (.string t449)).heap[gb451]? = some (.cells #[.string t444, .string t445, .string t446, .string t447, .string t448, .string t449] 29 (0, 0))) := ⟨by (with_reducible repeat (first | refine blk_drewN ?_ _ | refine blk_drew ?_ | refine blk_alloc ?_ _)); refine blk_put (cs := #[.string t444, .string t445, .string t446, .string t447, .string t448, .string (⟨#[]⟩ : ByteArray)]) ?_ 5 _ rfl; (with_reducible repeat (first | refine blk_drewN ?_ _ | refine blk_drew ?_ | refine blk_alloc ?_ _)); refine blk_put (cs := #[.string t444, .string t445, .string t446, .string t447, .string (⟨#[]⟩ : ByteArray), .string (⟨#[]⟩ : ByteArray)]) ?_ 4 _ rfl; (with_reducible repeat (first | refine blk_drewN ?_ _ | refine blk_drew ?_ | refine blk_alloc ?_ _)); refine blk_put (cs := #[.string t444, .string t445, .string t446, .string (⟨#[]⟩ : ByteArray), .string (⟨#[]⟩ : ByteArray), .string (⟨#[]⟩ : ByteArray)]) ?_ 3 _ rfl; (with_reducible repeat (first | refine blk_drewN ?_ _ | refine blk_drew ?_ | refine blk_alloc ?_ _)); refine blk_put (cs := #[.string t444, .string t445, .string (⟨#[]⟩ : ByteArray), .string (⟨#[]⟩ : ByteArray), .string (⟨#[]⟩ : ByteArray), .string (⟨#[]⟩ : ByteArray)]) ?_ 2 _ rfl; (with_reducible repeat (first | refine blk_drewN ?_ _ | refine blk_drew ?_ | refine blk_alloc ?_ _)); refine blk_put (cs := #[.string t444, .string (⟨#[]⟩ : ByteArray), .string (⟨#[]⟩ : ByteArray), .string (⟨#[]⟩ : ByteArray), .string (⟨#[]⟩ : ByteArray), .string (⟨#[]⟩ : ByteArray)]) ?_ 1 _ rfl; (with_reducible repeat (first | refine blk_drewN ?_ _ | refine blk_drew ?_ | refine blk_alloc ?_ _)); refine blk_put (cs := #[.string (⟨#[]⟩ : ByteArray), .string (⟨#[]⟩ : ByteArray), .string (⟨#[]⟩ : ByteArray), .string (⟨#[]⟩ : ByteArray), .string (⟨#[]⟩ : ByteArray), .string (⟨#[]⟩ : ByteArray)]) ?_ 0 _ rfl; (with_reducible repeat (first | refine blk_drewN ?_ _ | refine blk_drew ?_ | refine blk_alloc ?_ _)); exact BK451.out⟩
              have n3_ : Aside0 (Below w.heap.size w ((((((w18.setCell ⟨gb451, 0, none⟩ (.string t444)).setCell ⟨gb451, 1, none⟩ (.string t445)).setCell ⟨gb451, 2, none⟩ (.string t446)).setCell ⟨gb451, 3, none⟩ (.string t447)).setCell ⟨gb451, 4, none⟩ (.string t448)).setCell ⟨gb451, 5, none⟩ (.string t449))) := ⟨by repeat (first | (with_reducible first | exact HB.out | apply below_alloc | apply pw_below_drewN | apply below_drew1 | refine below_set ?_ GE443.out | refine below_set ?_ GE451.out) | exact HB.out)⟩
              (try clear HO441)
              (try clear BK443)
              (try clear BK451)
              (try clear HB)
              generalize ((((((w18.setCell ⟨gb451, 0, none⟩ (.string t444)).setCell ⟨gb451, 1, none⟩ (.string t445)).setCell ⟨gb451, 2, none⟩ (.string t446)).setCell ⟨gb451, 3, none⟩ (.string t447)).setCell ⟨gb451, 4, none⟩ (.string t448)).setCell ⟨gb451, 5, none⟩ (.string t449)) = w21 at n0_ n1_ n2_ n3_ ⊢
              have HO441 := n0_
              have BK443 := n1_
              have BK451 := n2_
              have HB := n3_
              clear n0_ n1_ n2_ n3_
              have n0_ := Aside0.mk (Kd.R_drew HO441.out)
              have n1_ := Aside0.mk (blk_drew BK443.out)
              have n2_ := Aside0.mk (blk_drew BK451.out)
              have n3_ := Aside0.mk (below_drew1 HB.out)
              clear HO441
              clear BK443
              clear BK451
              clear HB
              have HO441 := n0_
              have BK443 := n1_
              have BK451 := n2_
              have HB := n3_
              clear n0_ n1_ n2_ n3_
              refine start_ (n := 30) (S := fun w' => w'.cell? ⟨gb443, 0, none⟩ = some (.string ((rd_T22 y439 (ji3)).f0)) ∧ w'.cell? ⟨gb443, 1, none⟩ = some (.bool ((rd_T22 y439 (ji3)).f1)) ∧ w'.cell? ⟨gb451, 0, none⟩ = some (.string t444) ∧ w'.cell? ⟨gb451, 1, none⟩ = some (.string t445) ∧ w'.cell? ⟨gb451, 2, none⟩ = some (.string t446) ∧ w'.cell? ⟨gb451, 3, none⟩ = some (.string t447) ∧ w'.cell? ⟨gb451, 4, none⟩ = some (.string t448) ∧ w'.cell? ⟨gb451, 5, none⟩ = some (.string t449)) (ds := []) #[false, false, false, false, false, false, false, false, false, false, false, false, false, false, false, false, false, false, false, false, false, false, false, false, false, false, false, false, false, false] (by kernel_rfl) rfl rfl ⟨(blk_cell BK443.out 0).trans rfl, (blk_cell BK443.out 1).trans rfl, (blk_cell BK451.out 0).trans rfl, (blk_cell BK451.out 1).trans rfl, (blk_cell BK451.out 2).trans rfl, (blk_cell BK451.out 3).trans rfl, (blk_cell BK451.out 4).trans rfl, (blk_cell BK451.out 5).trans rfl⟩ (fun hHeld => ?_); refine with_tabW entaillaw2_TuplForms.tab4 entaillaw2_TuplForms.bits4 (fun HT_ HW_ => ?_)
              generalize w21.drew = w22 at HO441 BK443 BK451 HB hHeld ⊢
              refine pure_ (i := 0) (N := some 43) (v := ?_) (a' := ?_) #[true, false, false, false, false, false, false, false, false, false, false, false, false, false, false, false, false, false, false, false, false, false, false, false, false, false, false, false, false, false] rfl rfl (any_of HT_.out (by kernel_rfl)) (fun _ _ _ h => h) (Or.inl ⟨by rfl, ?_⟩) ?_ ?_
              rotate_left
              · intro w'
                go_simp
                with_reducible rfl
              rotate_left
              · simp only [Act.put, List.setIfInBounds_toArray, List.set_cons_zero, List.set_cons_succ, i64_w, i32_w]
                rfl
              refine pure_ (i := 1) (N := some 44) (v := ?_) (a' := ?_) #[true, true, false, false, false, false, false, false, false, false, false, false, false, false, false, false, false, false, false, false, false, false, false, false, false, false, false, false, false, false] rfl rfl (any_of HT_.out (by kernel_rfl)) (fun _ _ _ h => h) (Or.inl ⟨by rfl, ?_⟩) ?_ ?_
              rotate_left
              · intro w'
                go_simp
                with_reducible rfl
              rotate_left
              · simp only [Act.put, List.setIfInBounds_toArray, List.set_cons_zero, List.set_cons_succ, i64_w, i32_w]
                rfl
              refine take_ (i := 2) (N := some 45) (v := ?_) (a' := ?_) #[true, true, true, false, false, false, false, false, false, false, false, false, false, false, false, false, false, false, false, false, false, false, false, false, false, false, false, false, false, false] rfl rfl (take_ofW HT_.out HW_.out (by kernel_rfl)) (fun _ _ _ h => h) (Or.inl ⟨by rfl, ?_⟩) hHeld ?_ ?_
              rotate_left
              · rintro w' ⟨s0, s1, s2, s3, s4, s5, s6, s7⟩
                go_simp
                with_reducible rfl
              rotate_left
              · simp only [Act.put, List.setIfInBounds_toArray, List.set_cons_zero, List.set_cons_succ, i64_w, i32_w]
                rfl
              refine pure_ (i := 3) (N := some 46) (v := ?_) (a' := ?_) #[true, true, true, true, false, false, false, false, false, false, false, false, false, false, false, false, false, false, false, false, false, false, false, false, false, false, false, false, false, false] rfl rfl (any_of HT_.out (by kernel_rfl)) (fun _ _ _ h => h) (Or.inl ⟨by rfl, ?_⟩) ?_ ?_
              rotate_left
              · intro w'
                go_simp
                with_reducible rfl
              rotate_left
              · simp only [Act.put, List.setIfInBounds_toArray, List.set_cons_zero, List.set_cons_succ, i64_w, i32_w]
                rfl
              refine pure_ (i := 4) (N := some 47) (v := ?_) (a' := ?_) #[true, true, true, true, true, false, false, false, false, false, false, false, false, false, false, false, false, false, false, false, false, false, false, false, false, false, false, false, false, false] rfl rfl (any_of HT_.out (by kernel_rfl)) (fun _ _ _ h => h) (Or.inl ⟨by rfl, ?_⟩) ?_ ?_
              rotate_left
              · intro w'
                go_simp
                with_reducible rfl
              rotate_left
              · simp only [Act.put, List.setIfInBounds_toArray, List.set_cons_zero, List.set_cons_succ, i64_w, i32_w]
                rfl
              refine pure_ (i := 7) (N := some 50) (v := ?_) (a' := ?_) #[true, true, true, true, true, false, false, true, false, false, false, false, false, false, false, false, false, false, false, false, false, false, false, false, false, false, false, false, false, false] rfl rfl (any_of HT_.out (by kernel_rfl)) (fun _ _ _ h => h) (Or.inl ⟨by rfl, ?_⟩) ?_ ?_
              rotate_left
              · intro w'
                go_simp
                with_reducible rfl
              rotate_left
              · simp only [Act.put, List.setIfInBounds_toArray, List.set_cons_zero, List.set_cons_succ, i64_w, i32_w]
                rfl
              refine pure_ (i := 10) (N := some 53) (v := ?_) (a' := ?_) #[true, true, true, true, true, false, false, true, false, false, true, false, false, false, false, false, false, false, false, false, false, false, false, false, false, false, false, false, false, false] rfl rfl (any_of HT_.out (by kernel_rfl)) (fun _ _ _ h => h) (Or.inl ⟨by rfl, ?_⟩) ?_ ?_
              rotate_left
              · intro w'
                go_simp
                with_reducible rfl
              rotate_left
              · simp only [Act.put, List.setIfInBounds_toArray, List.set_cons_zero, List.set_cons_succ, i64_w, i32_w]
                rfl
              refine take_ (i := 5) (N := some 48) (v := ?_) (a' := ?_) #[true, true, true, true, true, true, false, true, false, false, true, false, false, false, false, false, false, false, false, false, false, false, false, false, false, false, false, false, false, false] rfl rfl (take_ofW HT_.out HW_.out (by kernel_rfl)) (fun _ _ _ h => h) (Or.inl ⟨by rfl, ?_⟩) hHeld ?_ ?_
              rotate_left
              · rintro w' ⟨s0, s1, s2, s3, s4, s5, s6, s7⟩
                go_simp
                with_reducible rfl
              rotate_left
              · simp only [Act.put, List.setIfInBounds_toArray, List.set_cons_zero, List.set_cons_succ, i64_w, i32_w]
                rfl
              refine take_ (i := 8) (N := some 51) (v := ?_) (a' := ?_) #[true, true, true, true, true, true, false, true, true, false, true, false, false, false, false, false, false, false, false, false, false, false, false, false, false, false, false, false, false, false] rfl rfl (take_ofW HT_.out HW_.out (by kernel_rfl)) (fun _ _ _ h => h) (Or.inl ⟨by rfl, ?_⟩) hHeld ?_ ?_
              rotate_left
              · rintro w' ⟨s0, s1, s2, s3, s4, s5, s6, s7⟩
                go_simp
                with_reducible rfl
              rotate_left
              · simp only [Act.put, List.setIfInBounds_toArray, List.set_cons_zero, List.set_cons_succ, i64_w, i32_w]
                rfl
              refine one_ (i := 6) (N := some 49) #[true, true, true, true, true, true, true, true, true, false, true, false, false, false, false, false, false, false, false, false, false, false, false, false, false, false, false, false, false, false] rfl rfl (one_of HT_.out (by kernel_rfl)) (by decide) (fun K hK => ?_)
              refine goes_ Try.func13 (by kernel_rfl) rfl #[.agg #[.string t444, .string t445, .string t446, .string t447, .string t448, .string t449]] (by rfl) rfl rfl (by (try simp only [List.map_toArray, List.map_cons, List.map_nil]); first | done | rfl | (simp only [List.length_drop, List.length_take]; rfl)) ?_
              with_reducible refine (tupl_Text.calls k t444 t445 t446 t447 t448 t449 t452 _ A8.out).mono ?_
              rintro e w23 ⟨rfl, hb⟩
              refine ⟨_, rfl, ?_⟩
              have n0_ := Aside0.mk (Kd.R_below (by (with_reducible repeat (first | apply Kd.R_alloc | apply Kd.R_drewN | apply Kd.R_drew)); exact HO441.out) hb)
              have n1_ := Aside0.mk (blk_below (g := gb443) (o := .cells #[.string ((rd_T22 y439 (ji3)).f0), .bool ((rd_T22 y439 (ji3)).f1)] 22 (0, 0)) (by (with_reducible repeat (first | refine blk_drewN ?_ _ | refine blk_drew ?_ | refine blk_alloc ?_ _)); exact BK443.out) hb)
              have n2_ := Aside0.mk (blk_below (g := gb451) (o := .cells #[.string t444, .string t445, .string t446, .string t447, .string t448, .string t449] 29 (0, 0)) (by (with_reducible repeat (first | refine blk_drewN ?_ _ | refine blk_drew ?_ | refine blk_alloc ?_ _)); exact BK451.out) hb)
              have n3_ := Aside0.mk (below_step (by repeat (first | (with_reducible first | exact HB.out | apply below_alloc | apply pw_below_drewN | apply below_drew1 | refine below_set ?_ GE443.out | refine below_set ?_ GE451.out) | exact HB.out)) hb)
              clear HO441
              clear BK443
              clear BK451
              clear HB
              have HO441 := n0_
              have BK443 := n1_
              have BK451 := n2_
              have HB := n3_
              clear n0_ n1_ n2_ n3_
              (try clear hb)
              (try clear hb2)
              (try clear hk)
              (try clear hi)
              refine hK.out _ _ ⟨(blk_cell BK443.out 0).trans rfl, (blk_cell BK443.out 1).trans rfl, (blk_cell BK451.out 0).trans rfl, (blk_cell BK451.out 1).trans rfl, (blk_cell BK451.out 2).trans rfl, (blk_cell BK451.out 3).trans rfl, (blk_cell BK451.out 4).trans rfl, (blk_cell BK451.out 5).trans rfl⟩ (fun hHeld => ?_)
              clear hK K
              refine norm_ (a' := ?_) ?_ ?_
              rotate_left
              · show Act.put _ (some 49) _ = _
                simp only [Act.put, List.setIfInBounds_toArray, List.set_cons_zero, List.set_cons_succ, i64_w, i32_w]
                rfl
              refine pure_ (i := 9) (N := some 52) (v := ?_) (a' := ?_) #[true, true, true, true, true, true, true, true, true, true, true, false, false, false, false, false, false, false, false, false, false, false, false, false, false, false, false, false, false, false] rfl rfl (any_of HT_.out (by kernel_rfl)) (fun _ _ _ h => h) (Or.inl ⟨by rfl, ?_⟩) ?_ ?_
              rotate_left
              · intro w'
                go_simp
                with_reducible rfl
              rotate_left
              · simp only [Act.put, List.setIfInBounds_toArray, List.set_cons_zero, List.set_cons_succ, i64_w, i32_w]
                rfl
              refine pure_ (i := 11) (N := some 54) (v := ?_) (a' := ?_) #[true, true, true, true, true, true, true, true, true, true, true, true, false, false, false, false, false, false, false, false, false, false, false, false, false, false, false, false, false, false] rfl rfl (any_of HT_.out (by kernel_rfl)) (fun _ _ _ h => h) (Or.inl ⟨by rfl, ?_⟩) ?_ ?_
              rotate_left
              · intro w'
                go_simp
                with_reducible rfl
              rotate_left
              · simp only [Act.put, List.setIfInBounds_toArray, List.set_cons_zero, List.set_cons_succ, i64_w, i32_w]
                rfl
              refine pure_ (i := 12) (N := some 55) (v := undef) (a' := ?_) #[true, true, true, true, true, true, true, true, true, true, true, true, true, false, false, false, false, false, false, false, false, false, false, false, false, false, false, false, false, false] rfl rfl (any_of HT_.out (by kernel_rfl)) (fun _ _ _ h => h) (Or.inr ⟨by rfl, rfl⟩) ?_ ?_
              rotate_left
              · simp only [Act.put, List.setIfInBounds_toArray, List.set_cons_zero, List.set_cons_succ, i64_w, i32_w]
                rfl
              refine pure_ (i := 13) (N := some 56) (v := undef) (a' := ?_) #[true, true, true, true, true, true, true, true, true, true, true, true, true, true, false, false, false, false, false, false, false, false, false, false, false, false, false, false, false, false] rfl rfl (any_of HT_.out (by kernel_rfl)) (fun _ _ _ h => h) (Or.inr ⟨by rfl, rfl⟩) ?_ ?_
              rotate_left
              · simp only [Act.put, List.setIfInBounds_toArray, List.set_cons_zero, List.set_cons_succ, i64_w, i32_w]
                rfl
              refine pure_ (i := 14) (N := some 57) (v := undef) (a' := ?_) #[true, true, true, true, true, true, true, true, true, true, true, true, true, true, true, false, false, false, false, false, false, false, false, false, false, false, false, false, false, false] rfl rfl (any_of HT_.out (by kernel_rfl)) (fun _ _ _ h => h) (Or.inr ⟨by rfl, rfl⟩) ?_ ?_
              rotate_left
              · simp only [Act.put, List.setIfInBounds_toArray, List.set_cons_zero, List.set_cons_succ, i64_w, i32_w]
                rfl
              refine pure_ (i := 15) (N := some 58) (v := ?_) (a' := ?_) #[true, true, true, true, true, true, true, true, true, true, true, true, true, true, true, true, false, false, false, false, false, false, false, false, false, false, false, false, false, false] rfl rfl (any_of HT_.out (by kernel_rfl)) (fun _ _ _ h => h) (Or.inl ⟨by rfl, ?_⟩) ?_ ?_
              rotate_left
              · intro w'
                go_simp
                with_reducible rfl
              rotate_left
              · simp only [Act.put, List.setIfInBounds_toArray, List.set_cons_zero, List.set_cons_succ, i64_w, i32_w]
                rfl
              refine pure_ (i := 16) (N := some 59) (v := ?_) (a' := ?_) #[true, true, true, true, true, true, true, true, true, true, true, true, true, true, true, true, true, false, false, false, false, false, false, false, false, false, false, false, false, false] rfl rfl (any_of HT_.out (by kernel_rfl)) (fun _ _ _ h => h) (Or.inl ⟨by rfl, ?_⟩) ?_ ?_
              rotate_left
              · intro w'
                go_simp
                with_reducible rfl
              rotate_left
              · simp only [Act.put, List.setIfInBounds_toArray, List.set_cons_zero, List.set_cons_succ, i64_w, i32_w]
                rfl
              refine pure_ (i := 17) (N := some 60) (v := ?_) (a' := ?_) #[true, true, true, true, true, true, true, true, true, true, true, true, true, true, true, true, true, true, false, false, false, false, false, false, false, false, false, false, false, false] rfl rfl (any_of HT_.out (by kernel_rfl)) (fun _ _ _ h => h) (Or.inl ⟨by rfl, ?_⟩) ?_ ?_
              rotate_left
              · intro w'
                go_simp
                with_reducible rfl
              rotate_left
              · simp only [Act.put, List.setIfInBounds_toArray, List.set_cons_zero, List.set_cons_succ, i64_w, i32_w]
                rfl
              refine pure_ (i := 18) (N := some 61) (v := ?_) (a' := ?_) #[true, true, true, true, true, true, true, true, true, true, true, true, true, true, true, true, true, true, true, false, false, false, false, false, false, false, false, false, false, false] rfl rfl (any_of HT_.out (by kernel_rfl)) (fun _ _ _ h => h) (Or.inl ⟨by rfl, ?_⟩) ?_ ?_
              rotate_left
              · intro w'
                go_simp
                with_reducible rfl
              rotate_left
              · simp only [Act.put, List.setIfInBounds_toArray, List.set_cons_zero, List.set_cons_succ, i64_w, i32_w]
                rfl
              refine pure_ (i := 19) (N := some 62) (v := ?_) (a' := ?_) #[true, true, true, true, true, true, true, true, true, true, true, true, true, true, true, true, true, true, true, true, false, false, false, false, false, false, false, false, false, false] rfl rfl (any_of HT_.out (by kernel_rfl)) (fun _ _ _ h => h) (Or.inl ⟨by rfl, ?_⟩) ?_ ?_
              rotate_left
              · intro w'
                go_simp
                with_reducible rfl
              rotate_left
              · simp only [Act.put, List.setIfInBounds_toArray, List.set_cons_zero, List.set_cons_succ, i64_w, i32_w]
                rfl
              refine pure_ (i := 20) (N := some 63) (v := ?_) (a' := ?_) #[true, true, true, true, true, true, true, true, true, true, true, true, true, true, true, true, true, true, true, true, true, false, false, false, false, false, false, false, false, false] rfl rfl (any_of HT_.out (by kernel_rfl)) (fun _ _ _ h => h) (Or.inl ⟨by rfl, ?_⟩) ?_ ?_
              rotate_left
              · intro w'
                go_simp
                with_reducible rfl
              rotate_left
              · simp only [Act.put, List.setIfInBounds_toArray, List.set_cons_zero, List.set_cons_succ, i64_w, i32_w]
                rfl
              refine pure_ (i := 21) (N := some 64) (v := undef) (a' := ?_) #[true, true, true, true, true, true, true, true, true, true, true, true, true, true, true, true, true, true, true, true, true, true, false, false, false, false, false, false, false, false] rfl rfl (any_of HT_.out (by kernel_rfl)) (fun _ _ _ h => h) (Or.inr ⟨by rfl, rfl⟩) ?_ ?_
              rotate_left
              · simp only [Act.put, List.setIfInBounds_toArray, List.set_cons_zero, List.set_cons_succ, i64_w, i32_w]
                rfl
              refine pure_ (i := 22) (N := some 65) (v := undef) (a' := ?_) #[true, true, true, true, true, true, true, true, true, true, true, true, true, true, true, true, true, true, true, true, true, true, true, false, false, false, false, false, false, false] rfl rfl (any_of HT_.out (by kernel_rfl)) (fun _ _ _ h => h) (Or.inr ⟨by rfl, rfl⟩) ?_ ?_
              rotate_left
              · simp only [Act.put, List.setIfInBounds_toArray, List.set_cons_zero, List.set_cons_succ, i64_w, i32_w]
                rfl
              refine pure_ (i := 23) (N := some 66) (v := undef) (a' := ?_) #[true, true, true, true, true, true, true, true, true, true, true, true, true, true, true, true, true, true, true, true, true, true, true, true, false, false, false, false, false, false] rfl rfl (any_of HT_.out (by kernel_rfl)) (fun _ _ _ h => h) (Or.inr ⟨by rfl, rfl⟩) ?_ ?_
              rotate_left
              · simp only [Act.put, List.setIfInBounds_toArray, List.set_cons_zero, List.set_cons_succ, i64_w, i32_w]
                rfl
              refine pure_ (i := 24) (N := some 67) (v := ?_) (a' := ?_) #[true, true, true, true, true, true, true, true, true, true, true, true, true, true, true, true, true, true, true, true, true, true, true, true, true, false, false, false, false, false] rfl rfl (any_of HT_.out (by kernel_rfl)) (fun _ _ _ h => h) (Or.inl ⟨by rfl, ?_⟩) ?_ ?_
              rotate_left
              · intro w'
                go_simp
                with_reducible rfl
              rotate_left
              · simp only [Act.put, List.setIfInBounds_toArray, List.set_cons_zero, List.set_cons_succ, i64_w, i32_w]
                rfl
              refine pure_ (i := 25) (N := some 68) (v := ?_) (a' := ?_) #[true, true, true, true, true, true, true, true, true, true, true, true, true, true, true, true, true, true, true, true, true, true, true, true, true, true, false, false, false, false] rfl rfl (any_of HT_.out (by kernel_rfl)) (fun _ _ _ h => h) (Or.inl ⟨by rfl, ?_⟩) ?_ ?_
              rotate_left
              · intro w'
                go_simp
                with_reducible rfl
              rotate_left
              · simp only [Act.put, List.setIfInBounds_toArray, List.set_cons_zero, List.set_cons_succ, i64_w, i32_w]
                rfl
              refine pure_ (i := 26) (N := some 69) (v := ?_) (a' := ?_) #[true, true, true, true, true, true, true, true, true, true, true, true, true, true, true, true, true, true, true, true, true, true, true, true, true, true, true, false, false, false] rfl rfl (any_of HT_.out (by kernel_rfl)) (fun _ _ _ h => h) (Or.inl ⟨by rfl, ?_⟩) ?_ ?_
              rotate_left
              · intro w'
                go_simp
                with_reducible rfl
              rotate_left
              · simp only [Act.put, List.setIfInBounds_toArray, List.set_cons_zero, List.set_cons_succ, i64_w, i32_w]
                rfl
              refine one_ (i := 27) (N := some 70) #[true, true, true, true, true, true, true, true, true, true, true, true, true, true, true, true, true, true, true, true, true, true, true, true, true, true, true, true, false, false] rfl rfl (one_of HT_.out (by kernel_rfl)) (by decide) (fun K hK => ?_)
              refine goes_ Try.func14 (by kernel_rfl) rfl #[] (by rfl) rfl rfl (by (try simp only [List.map_toArray, List.map_cons, List.map_nil]); first | done | rfl | (simp only [List.length_drop, List.length_take]; rfl)) ?_
              with_reducible refine (entaillaw2_awake.calls k  t453 _ A11.out).mono ?_
              rintro e w24 ⟨rfl, hb⟩
              refine ⟨_, rfl, ?_⟩
              have n0_ := Aside0.mk (Kd.R_below (by (with_reducible repeat (first | apply Kd.R_alloc | apply Kd.R_drewN | apply Kd.R_drew)); exact HO441.out) hb)
              have n1_ := Aside0.mk (blk_below (g := gb443) (o := .cells #[.string ((rd_T22 y439 (ji3)).f0), .bool ((rd_T22 y439 (ji3)).f1)] 22 (0, 0)) (by (with_reducible repeat (first | refine blk_drewN ?_ _ | refine blk_drew ?_ | refine blk_alloc ?_ _)); exact BK443.out) hb)
              have n2_ := Aside0.mk (blk_below (g := gb451) (o := .cells #[.string t444, .string t445, .string t446, .string t447, .string t448, .string t449] 29 (0, 0)) (by (with_reducible repeat (first | refine blk_drewN ?_ _ | refine blk_drew ?_ | refine blk_alloc ?_ _)); exact BK451.out) hb)
              have n3_ := Aside0.mk (below_step (by repeat (first | (with_reducible first | exact HB.out | apply below_alloc | apply pw_below_drewN | apply below_drew1 | refine below_set ?_ GE443.out | refine below_set ?_ GE451.out) | exact HB.out)) hb)
              clear HO441
              clear BK443
              clear BK451
              clear HB
              have HO441 := n0_
              have BK443 := n1_
              have BK451 := n2_
              have HB := n3_
              clear n0_ n1_ n2_ n3_
              (try clear hb)
              (try clear hb2)
              (try clear hk)
              (try clear hi)
              refine hK.out _ _ ⟨(blk_cell BK443.out 0).trans rfl, (blk_cell BK443.out 1).trans rfl, (blk_cell BK451.out 0).trans rfl, (blk_cell BK451.out 1).trans rfl, (blk_cell BK451.out 2).trans rfl, (blk_cell BK451.out 3).trans rfl, (blk_cell BK451.out 4).trans rfl, (blk_cell BK451.out 5).trans rfl⟩ (fun hHeld => ?_)
              clear hK K
              refine norm_ (a' := ?_) ?_ ?_
              rotate_left
              · show Act.put _ (some 70) _ = _
                simp only [Act.put, List.setIfInBounds_toArray, List.set_cons_zero, List.set_cons_succ, i64_w, i32_w]
                rfl
              refine pure_ (i := 28) (N := some 71) (v := ?_) (a' := ?_) #[true, true, true, true, true, true, true, true, true, true, true, true, true, true, true, true, true, true, true, true, true, true, true, true, true, true, true, true, true, false] rfl rfl (any_of HT_.out (by kernel_rfl)) (fun _ _ _ h => h) (Or.inl ⟨by rfl, ?_⟩) ?_ ?_
              rotate_left
              · intro w'
                go_simp
                with_reducible rfl
              rotate_left
              · simp only [Act.put, List.setIfInBounds_toArray, List.set_cons_zero, List.set_cons_succ, i64_w, i32_w]
                rfl
              refine pure_ (i := 29) (N := some 2) (v := ?_) (a' := ?_) #[true, true, true, true, true, true, true, true, true, true, true, true, true, true, true, true, true, true, true, true, true, true, true, true, true, true, true, true, true, true] rfl rfl (any_of HT_.out (by kernel_rfl)) (fun _ _ _ h => h) (Or.inl ⟨by rfl, ?_⟩) ?_ ?_
              rotate_left
              · intro w'
                go_simp
                with_reducible rfl
              rotate_left
              · simp only [Act.put, List.setIfInBounds_toArray, List.set_cons_zero, List.set_cons_succ, i64_w, i32_w]
                rfl
              refine done_ (done_of HT_.out (by kernel_rfl)) ?_
              try go_wp2
              go_ret
              exact ⟨by first | rfl | (simp [errW_none, errW_some] <;> rfl) | (simp only [← hji3]; first | rfl | (simp [errW_none, errW_some] <;> rfl)) | (simp [*, errW_none, errW_some] <;> rfl), by repeat (first | (with_reducible first | exact HB.out | apply below_alloc | apply pw_below_drewN | apply below_drew1 | refine below_set ?_ GE443.out | refine below_set ?_ GE451.out) | exact HB.out)⟩
            · rw [if_neg c10] at H
              have c10b0 : ((t452.toList == ((rd_T22 y439 (ji3)).f0).toList) == true) = false := by simpa using c10
              (try (have c10b1 : decide ((t452.toList == ((rd_T22 y439 (ji3)).f0).toList) = true) = false := by simpa using c10))
              (try (have c10b2 : ((t452.toList == ((rd_T22 y439 (ji3)).f0).toList) == true) = false := by simpa using c10))
              (try (have c10b3 : ¬ ((t452.toList == ((rd_T22 y439 (ji3)).f0).toList) = true) := by simpa using c10))
              clear c10
              exact absurd H (by simp)
          · replace c9 := Bool.eq_false_iff.mpr c9
            subst c9
            have H1 : (if ((t452.toList == ((rd_T22 y439 (ji3)).f0).toList) == (((rd_T22 y439 (ji3)).f0).toList == ([] : List UInt8))) = true then (if ((t444.toList == ([] : List UInt8) && (t445.toList == ([] : List UInt8))) && (t446.toList == ([] : List UInt8) && ((t447.toList == ([] : List UInt8) && (t448.toList == ([] : List UInt8) && (t449.toList == ([] : List UInt8))))))) = true then ((entaillaw2_awake.f k).bind fun t454 => (some t454)) else (none)) else (none)) = some r := by rw [if_neg (show ¬ (false = true) by decide)] at H; exact H
            clear H
            have H := H1
            clear H1
            by_cases c25 : ((t452.toList == ((rd_T22 y439 (ji3)).f0).toList) == (((rd_T22 y439 (ji3)).f0).toList == ([] : List UInt8))) = true
            · rw [if_pos c25] at H
              have c25b0 : ((t452.toList == ((rd_T22 y439 (ji3)).f0).toList) == (((rd_T22 y439 (ji3)).f0).toList == ([] : List UInt8))) = true := c25
              (try (have c25zb0 : ((t452.toList == ((rd_T22 y439 (ji3)).f0).toList) == (((rd_T22 y439 (ji3)).f0).toList.isEmpty)) = true := by have h_ : ∀ l : List UInt8, (l == ([] : List UInt8)) = l.isEmpty := (fun l => by cases l <;> rfl); have q_ := c25b0; simp only [h_] at q_; exact q_))
              (try (have c25b1 : decide ((t452.toList == ((rd_T22 y439 (ji3)).f0).toList) = (((rd_T22 y439 (ji3)).f0).toList == ([] : List UInt8))) = true := by simpa using c25))
              (try (have c25zb1 : decide ((t452.toList == ((rd_T22 y439 (ji3)).f0).toList) = (((rd_T22 y439 (ji3)).f0).toList.isEmpty)) = true := by have h_ : ∀ l : List UInt8, (l == ([] : List UInt8)) = l.isEmpty := (fun l => by cases l <;> rfl); have q_ := c25b1; simp only [h_] at q_; exact q_))
              (try (have c25b2 : ((t452.toList == ((rd_T22 y439 (ji3)).f0).toList) == (((rd_T22 y439 (ji3)).f0).toList == ([] : List UInt8))) = true := by simpa using c25))
              (try (have c25zb2 : ((t452.toList == ((rd_T22 y439 (ji3)).f0).toList) == (((rd_T22 y439 (ji3)).f0).toList.isEmpty)) = true := by have h_ : ∀ l : List UInt8, (l == ([] : List UInt8)) = l.isEmpty := (fun l => by cases l <;> rfl); have q_ := c25b2; simp only [h_] at q_; exact q_))
              clear c25
              by_cases c26 : ((t444.toList == ([] : List UInt8) && (t445.toList == ([] : List UInt8))) && (t446.toList == ([] : List UInt8) && ((t447.toList == ([] : List UInt8) && (t448.toList == ([] : List UInt8) && (t449.toList == ([] : List UInt8))))))) = true
              · rw [if_pos c26] at H
                have c26b0 : ((t444.toList == ([] : List UInt8) && (t445.toList == ([] : List UInt8))) && (t446.toList == ([] : List UInt8) && ((t447.toList == ([] : List UInt8) && (t448.toList == ([] : List UInt8) && (t449.toList == ([] : List UInt8))))))) = true := c26
                (try (have c26zb0 : ((t444.toList.isEmpty && (t445.toList.isEmpty)) && (t446.toList.isEmpty && ((t447.toList.isEmpty && (t448.toList.isEmpty && (t449.toList.isEmpty)))))) = true := by have h_ : ∀ l : List UInt8, (l == ([] : List UInt8)) = l.isEmpty := (fun l => by cases l <;> rfl); have q_ := c26b0; simp only [h_] at q_; exact q_))
                clear c26
                replace H := Option.bind_eq_some_iff.mp H
                obtain ⟨t454, A270, H⟩ := H
                replace H : (some t454) = some r := H
                have A27 := Aside0.mk A270
                clear A270
                obtain rfl := Option.some.inj H
                go_enter Try.func3, Try.ntmps3
                try go_wp2_with (first | ((with_reducible refine gate_dst (N := 28) rfl ?_); refine Kd.R_lit k22 _ 22 ?hg (N := 28) ?hd (xs := ([(⟨(⟨#[97, 58, 98, 35, 99, 64, 100, 58, 101]⟩ : ByteArray), true⟩ : S22), (⟨(⟨#[97, 58, 98, 35, 99, 64, 100, 58, 101, 35, 102]⟩ : ByteArray), true⟩ : S22), (⟨(⟨#[97, 58, 98, 47, 99, 124, 42, 35, 99, 64, 100, 58, 101]⟩ : ByteArray), true⟩ : S22), (⟨(⟨#[]⟩ : ByteArray), false⟩ : S22), (⟨(⟨#[97, 58, 98, 35, 99, 64, 100]⟩ : ByteArray), false⟩ : S22), (⟨(⟨#[97, 58, 98, 64, 100, 58, 101]⟩ : ByteArray), false⟩ : S22), (⟨(⟨#[97, 35, 99, 64, 100, 58, 101]⟩ : ByteArray), false⟩ : S22), (⟨(⟨#[97, 58, 98, 35, 99, 64, 100, 58, 101, 35]⟩ : ByteArray), false⟩ : S22), (⟨(⟨#[97, 58, 98, 35, 99, 64, 100, 58, 101, 35, 102, 35, 103]⟩ : ByteArray), false⟩ : S22), (⟨(⟨#[97, 58, 98, 58, 99, 35, 99, 64, 100, 58, 101]⟩ : ByteArray), false⟩ : S22), (⟨(⟨#[97, 58, 98, 35, 99, 64, 100, 58, 101, 64, 102]⟩ : ByteArray), false⟩ : S22), (⟨(⟨#[58, 98, 35, 99, 64, 100, 58, 101]⟩ : ByteArray), false⟩ : S22), (⟨(⟨#[97, 58, 35, 99, 64, 100, 58, 101]⟩ : ByteArray), false⟩ : S22), (⟨(⟨#[97, 58, 98, 35, 64, 100, 58, 101]⟩ : ByteArray), false⟩ : S22), (⟨(⟨#[97, 58, 98, 35, 99, 64, 58, 101]⟩ : ByteArray), false⟩ : S22), (⟨(⟨#[97, 58, 98, 35, 99, 64, 100, 58]⟩ : ByteArray), false⟩ : S22), (⟨(⟨#[65, 58, 98, 35, 99, 64, 100, 58, 101]⟩ : ByteArray), false⟩ : S22), (⟨(⟨#[97, 58, 98, 32, 99, 35, 99, 64, 100, 58, 101]⟩ : ByteArray), false⟩ : S22), (⟨(⟨#[97, 58, 98, 35, 99, 47, 100, 64, 100, 58, 101]⟩ : ByteArray), false⟩ : S22), (⟨(⟨#[32, 97, 58, 98, 35, 99, 64, 100, 58, 101]⟩ : ByteArray), false⟩ : S22), (⟨(⟨#[97, 58, 98, 35, 99, 64, 100, 58, 101, 32]⟩ : ByteArray), false⟩ : S22)] : List (S22))) (inner := [.string (⟨#[97, 58, 98, 35, 99, 64, 100, 58, 101]⟩ : ByteArray), .bool true, .string (⟨#[97, 58, 98, 35, 99, 64, 100, 58, 101, 35, 102]⟩ : ByteArray), .bool true, .string (⟨#[97, 58, 98, 47, 99, 124, 42, 35, 99, 64, 100, 58, 101]⟩ : ByteArray), .bool true, .string (⟨#[]⟩ : ByteArray), .bool false, .string (⟨#[97, 58, 98, 35, 99, 64, 100]⟩ : ByteArray), .bool false, .string (⟨#[97, 58, 98, 64, 100, 58, 101]⟩ : ByteArray), .bool false, .string (⟨#[97, 35, 99, 64, 100, 58, 101]⟩ : ByteArray), .bool false, .string (⟨#[97, 58, 98, 35, 99, 64, 100, 58, 101, 35]⟩ : ByteArray), .bool false, .string (⟨#[97, 58, 98, 35, 99, 64, 100, 58, 101, 35, 102, 35, 103]⟩ : ByteArray), .bool false, .string (⟨#[97, 58, 98, 58, 99, 35, 99, 64, 100, 58, 101]⟩ : ByteArray), .bool false, .string (⟨#[97, 58, 98, 35, 99, 64, 100, 58, 101, 64, 102]⟩ : ByteArray), .bool false, .string (⟨#[58, 98, 35, 99, 64, 100, 58, 101]⟩ : ByteArray), .bool false, .string (⟨#[97, 58, 35, 99, 64, 100, 58, 101]⟩ : ByteArray), .bool false, .string (⟨#[97, 58, 98, 35, 64, 100, 58, 101]⟩ : ByteArray), .bool false, .string (⟨#[97, 58, 98, 35, 99, 64, 58, 101]⟩ : ByteArray), .bool false, .string (⟨#[97, 58, 98, 35, 99, 64, 100, 58]⟩ : ByteArray), .bool false, .string (⟨#[65, 58, 98, 35, 99, 64, 100, 58, 101]⟩ : ByteArray), .bool false, .string (⟨#[97, 58, 98, 32, 99, 35, 99, 64, 100, 58, 101]⟩ : ByteArray), .bool false, .string (⟨#[97, 58, 98, 35, 99, 47, 100, 64, 100, 58, 101]⟩ : ByteArray), .bool false, .string (⟨#[32, 97, 58, 98, 35, 99, 64, 100, 58, 101]⟩ : ByteArray), .bool false, .string (⟨#[97, 58, 98, 35, 99, 64, 100, 58, 101, 32]⟩ : ByteArray), .bool false]) (ok := fun _ => True) (okp := fun _ => True) ?hr ?hp (fun _ hk => hk) trivial (Below.refl _ _) (Nat.le_refl _) (by simp) ?_; (case hd => rfl); (case hg => rfl); (case hr => first | (go_simp; done) | (go_simp; rfl)); (case hp => exact (Reps.c2 (show Kd.M k22 _ _ _ (⟨(⟨#[97, 58, 98, 35, 99, 64, 100, 58, 101]⟩ : ByteArray), true⟩ : S22) [.string (⟨#[97, 58, 98, 35, 99, 64, 100, 58, 101]⟩ : ByteArray), .bool true] from (k22_mkM _ _ _ (⟨(⟨#[97, 58, 98, 35, 99, 64, 100, 58, 101]⟩ : ByteArray), true⟩ : S22) )) (Reps.c2 (show Kd.M k22 _ _ _ (⟨(⟨#[97, 58, 98, 35, 99, 64, 100, 58, 101, 35, 102]⟩ : ByteArray), true⟩ : S22) [.string (⟨#[97, 58, 98, 35, 99, 64, 100, 58, 101, 35, 102]⟩ : ByteArray), .bool true] from (k22_mkM _ _ _ (⟨(⟨#[97, 58, 98, 35, 99, 64, 100, 58, 101, 35, 102]⟩ : ByteArray), true⟩ : S22) )) (Reps.c2 (show Kd.M k22 _ _ _ (⟨(⟨#[97, 58, 98, 47, 99, 124, 42, 35, 99, 64, 100, 58, 101]⟩ : ByteArray), true⟩ : S22) [.string (⟨#[97, 58, 98, 47, 99, 124, 42, 35, 99, 64, 100, 58, 101]⟩ : ByteArray), .bool true] from (k22_mkM _ _ _ (⟨(⟨#[97, 58, 98, 47, 99, 124, 42, 35, 99, 64, 100, 58, 101]⟩ : ByteArray), true⟩ : S22) )) (Reps.c2 (show Kd.M k22 _ _ _ (⟨(⟨#[]⟩ : ByteArray), false⟩ : S22) [.string (⟨#[]⟩ : ByteArray), .bool false] from (k22_mkM _ _ _ (⟨(⟨#[]⟩ : ByteArray), false⟩ : S22) )) (Reps.c2 (show Kd.M k22 _ _ _ (⟨(⟨#[97, 58, 98, 35, 99, 64, 100]⟩ : ByteArray), false⟩ : S22) [.string (⟨#[97, 58, 98, 35, 99, 64, 100]⟩ : ByteArray), .bool false] from (k22_mkM _ _ _ (⟨(⟨#[97, 58, 98, 35, 99, 64, 100]⟩ : ByteArray), false⟩ : S22) )) (Reps.c2 (show Kd.M k22 _ _ _ (⟨(⟨#[97, 58, 98, 64, 100, 58, 101]⟩ : ByteArray), false⟩ : S22) [.string (⟨#[97, 58, 98, 64, 100, 58, 101]⟩ : ByteArray), .bool false] from (k22_mkM _ _ _ (⟨(⟨#[97, 58, 98, 64, 100, 58, 101]⟩ : ByteArray), false⟩ : S22) )) (Reps.c2 (show Kd.M k22 _ _ _ (⟨(⟨#[97, 35, 99, 64, 100, 58, 101]⟩ : ByteArray), false⟩ : S22) [.string (⟨#[97, 35, 99, 64, 100, 58, 101]⟩ : ByteArray), .bool false] from (k22_mkM _ _ _ (⟨(⟨#[97, 35, 99, 64, 100, 58, 101]⟩ : ByteArray), false⟩ : S22) )) (Reps.c2 (show Kd.M k22 _ _ _ (⟨(⟨#[97, 58, 98, 35, 99, 64, 100, 58, 101, 35]⟩ : ByteArray), false⟩ : S22) [.string (⟨#[97, 58, 98, 35, 99, 64, 100, 58, 101, 35]⟩ : ByteArray), .bool false] from (k22_mkM _ _ _ (⟨(⟨#[97, 58, 98, 35, 99, 64, 100, 58, 101, 35]⟩ : ByteArray), false⟩ : S22) )) (Reps.c2 (show Kd.M k22 _ _ _ (⟨(⟨#[97, 58, 98, 35, 99, 64, 100, 58, 101, 35, 102, 35, 103]⟩ : ByteArray), false⟩ : S22) [.string (⟨#[97, 58, 98, 35, 99, 64, 100, 58, 101, 35, 102, 35, 103]⟩ : ByteArray), .bool false] from (k22_mkM _ _ _ (⟨(⟨#[97, 58, 98, 35, 99, 64, 100, 58, 101, 35, 102, 35, 103]⟩ : ByteArray), false⟩ : S22) )) (Reps.c2 (show Kd.M k22 _ _ _ (⟨(⟨#[97, 58, 98, 58, 99, 35, 99, 64, 100, 58, 101]⟩ : ByteArray), false⟩ : S22) [.string (⟨#[97, 58, 98, 58, 99, 35, 99, 64, 100, 58, 101]⟩ : ByteArray), .bool false] from (k22_mkM _ _ _ (⟨(⟨#[97, 58, 98, 58, 99, 35, 99, 64, 100, 58, 101]⟩ : ByteArray), false⟩ : S22) )) (Reps.c2 (show Kd.M k22 _ _ _ (⟨(⟨#[97, 58, 98, 35, 99, 64, 100, 58, 101, 64, 102]⟩ : ByteArray), false⟩ : S22) [.string (⟨#[97, 58, 98, 35, 99, 64, 100, 58, 101, 64, 102]⟩ : ByteArray), .bool false] from (k22_mkM _ _ _ (⟨(⟨#[97, 58, 98, 35, 99, 64, 100, 58, 101, 64, 102]⟩ : ByteArray), false⟩ : S22) )) (Reps.c2 (show Kd.M k22 _ _ _ (⟨(⟨#[58, 98, 35, 99, 64, 100, 58, 101]⟩ : ByteArray), false⟩ : S22) [.string (⟨#[58, 98, 35, 99, 64, 100, 58, 101]⟩ : ByteArray), .bool false] from (k22_mkM _ _ _ (⟨(⟨#[58, 98, 35, 99, 64, 100, 58, 101]⟩ : ByteArray), false⟩ : S22) )) (Reps.c2 (show Kd.M k22 _ _ _ (⟨(⟨#[97, 58, 35, 99, 64, 100, 58, 101]⟩ : ByteArray), false⟩ : S22) [.string (⟨#[97, 58, 35, 99, 64, 100, 58, 101]⟩ : ByteArray), .bool false] from (k22_mkM _ _ _ (⟨(⟨#[97, 58, 35, 99, 64, 100, 58, 101]⟩ : ByteArray), false⟩ : S22) )) (Reps.c2 (show Kd.M k22 _ _ _ (⟨(⟨#[97, 58, 98, 35, 64, 100, 58, 101]⟩ : ByteArray), false⟩ : S22) [.string (⟨#[97, 58, 98, 35, 64, 100, 58, 101]⟩ : ByteArray), .bool false] from (k22_mkM _ _ _ (⟨(⟨#[97, 58, 98, 35, 64, 100, 58, 101]⟩ : ByteArray), false⟩ : S22) )) (Reps.c2 (show Kd.M k22 _ _ _ (⟨(⟨#[97, 58, 98, 35, 99, 64, 58, 101]⟩ : ByteArray), false⟩ : S22) [.string (⟨#[97, 58, 98, 35, 99, 64, 58, 101]⟩ : ByteArray), .bool false] from (k22_mkM _ _ _ (⟨(⟨#[97, 58, 98, 35, 99, 64, 58, 101]⟩ : ByteArray), false⟩ : S22) )) (Reps.c2 (show Kd.M k22 _ _ _ (⟨(⟨#[97, 58, 98, 35, 99, 64, 100, 58]⟩ : ByteArray), false⟩ : S22) [.string (⟨#[97, 58, 98, 35, 99, 64, 100, 58]⟩ : ByteArray), .bool false] from (k22_mkM _ _ _ (⟨(⟨#[97, 58, 98, 35, 99, 64, 100, 58]⟩ : ByteArray), false⟩ : S22) )) (Reps.c2 (show Kd.M k22 _ _ _ (⟨(⟨#[65, 58, 98, 35, 99, 64, 100, 58, 101]⟩ : ByteArray), false⟩ : S22) [.string (⟨#[65, 58, 98, 35, 99, 64, 100, 58, 101]⟩ : ByteArray), .bool false] from (k22_mkM _ _ _ (⟨(⟨#[65, 58, 98, 35, 99, 64, 100, 58, 101]⟩ : ByteArray), false⟩ : S22) )) (Reps.c2 (show Kd.M k22 _ _ _ (⟨(⟨#[97, 58, 98, 32, 99, 35, 99, 64, 100, 58, 101]⟩ : ByteArray), false⟩ : S22) [.string (⟨#[97, 58, 98, 32, 99, 35, 99, 64, 100, 58, 101]⟩ : ByteArray), .bool false] from (k22_mkM _ _ _ (⟨(⟨#[97, 58, 98, 32, 99, 35, 99, 64, 100, 58, 101]⟩ : ByteArray), false⟩ : S22) )) (Reps.c2 (show Kd.M k22 _ _ _ (⟨(⟨#[97, 58, 98, 35, 99, 47, 100, 64, 100, 58, 101]⟩ : ByteArray), false⟩ : S22) [.string (⟨#[97, 58, 98, 35, 99, 47, 100, 64, 100, 58, 101]⟩ : ByteArray), .bool false] from (k22_mkM _ _ _ (⟨(⟨#[97, 58, 98, 35, 99, 47, 100, 64, 100, 58, 101]⟩ : ByteArray), false⟩ : S22) )) (Reps.c2 (show Kd.M k22 _ _ _ (⟨(⟨#[32, 97, 58, 98, 35, 99, 64, 100, 58, 101]⟩ : ByteArray), false⟩ : S22) [.string (⟨#[32, 97, 58, 98, 35, 99, 64, 100, 58, 101]⟩ : ByteArray), .bool false] from (k22_mkM _ _ _ (⟨(⟨#[32, 97, 58, 98, 35, 99, 64, 100, 58, 101]⟩ : ByteArray), false⟩ : S22) )) (Reps.c2 (show Kd.M k22 _ _ _ (⟨(⟨#[97, 58, 98, 35, 99, 64, 100, 58, 101, 32]⟩ : ByteArray), false⟩ : S22) [.string (⟨#[97, 58, 98, 35, 99, 64, 100, 58, 101, 32]⟩ : ByteArray), .bool false] from (k22_mkM _ _ _ (⟨(⟨#[97, 58, 98, 35, 99, 64, 100, 58, 101, 32]⟩ : ByteArray), false⟩ : S22) )) (Reps.none _ _))))))))))))))))))))))); intro v440 w28 ho29 hb hg_ hnew_; clear hg_ hnew_; (first | rw [← Ny439.out] at ho29 | (simp only [Int.reduceToNat] at ho29; rw [← Ny439.out] at ho29)); have n0_ := Aside0.mk (Kd.R_lower ho29 (below_size (by repeat (first | (with_reducible first | exact HB.out | apply below_alloc | apply pw_below_drewN | apply below_drew1) | exact HB.out)))); have n1_ := Aside0.mk (below_step (by repeat (first | (with_reducible first | exact HB.out | apply below_alloc | apply pw_below_drewN | apply below_drew1) | exact HB.out)) hb); clear HB; have HO441 := n0_; have HB := n1_; clear n0_ n1_; clear hb ho29; obtain ⟨Ao30, co30, eo30⟩ := Kd.R_slice HO441.out; subst eo30; have p442 : 0 ≤ ((ji3) : Int) := of_decide_eq_true (by first | (with_reducible assumption) | assumption); have q442 : (ji3) < (y439.length : Int) := of_decide_eq_true (by first | (with_reducible assumption) | assumption); obtain ⟨ad442, e442, hx442_0, hx442_1⟩ := at_T22 (Kd.R_reads' HO441.out).2.2 (ji3) p442 q442; cases e442; replace p442 := eq_true p442; replace q442 := eq_true q442) | ((with_reducible refine gate_dst (N := 4) rfl ?_); refine box_event ?hg (N := 4) ?hd (cs := #[.string (⟨#[]⟩ : ByteArray), .bool false]) (t := 22) ?hr ?_; (case hd => rfl); (case hg => rfl); (case hr => first | (go_simp; done) | (go_simp; rfl)); intro gb443 hg w31 hbox hb; have n0_ := Aside0.mk (Kd.R_below (Kd.R_elderB (by (with_reducible repeat (first | apply Kd.R_alloc | apply Kd.R_drewN | apply Kd.R_drew)); exact HO441.out) gb443 (Nat.le_of_eq hg.symm)) hb); have n1_ := Aside0.mk (below_step (by repeat (first | (with_reducible first | exact HB.out | apply below_alloc | apply pw_below_drewN | apply below_drew1) | exact HB.out)) hb); have n2_ := Aside0.mk (hbox); have n3_ := Aside0.mk ((by rw [hg]; exact (below_size (by repeat (first | (with_reducible first | exact HB.out | apply below_alloc | apply pw_below_drewN | apply below_drew1) | exact HB.out))) : w.heap.size ≤ gb443)); have n4_ := Aside0.mk ((by rw [hg]; exact (below_size (by repeat (first | (with_reducible first | exact HB.out | apply below_alloc | apply pw_below_drewN | apply below_drew1) | exact HB.out))) : w.heap.size ≤ gb443)); clear HO441; clear HB; have HO441 := n0_; have HB := n1_; have BK443 := n2_; have GW443 := n3_; have GE443 := n4_; clear n0_ n1_ n2_ n3_ n4_; clear hb hbox hg; have hcz32_0 : w31.cell? ⟨gb443, 0, none⟩ = some (.string (⟨#[]⟩ : ByteArray)) := (blk_cell BK443.out 0).trans rfl; have hcz32_1 : w31.cell? ⟨gb443, 1, none⟩ = some (.bool false) := (blk_cell BK443.out 1).trans rfl; have hfz32_0 := blk_frozen BK443.out 0; have hfz32_1 := blk_frozen BK443.out 1) | ((with_reducible refine gate_callee (f := 12) rfl ?_); refine goesL_ (some 40) rfl rfl Try.func12 (by kernel_rfl) rfl #[.string ((rd_T22 y439 (ji3)).f0)] rfl (by (try simp only [List.map_toArray, List.map_cons, List.map_nil]); first | done | (simp only [hji3]; rfl) | rfl | (simp only [List.length_drop, List.length_take]; rfl)) ?_; (with_reducible refine (tupl_Parse.calls k ((rd_T22 y439 (ji3)).f0) t444 t445 t446 t447 t448 t449 false _ A6.out).mono ?_); rintro e w33 ⟨rfl, hb⟩; refine ⟨_, rfl, ?_⟩; have n0_ := Aside0.mk (Kd.R_below (by (with_reducible repeat (first | apply Kd.R_alloc | apply Kd.R_drewN | apply Kd.R_drew)); exact (Kd.R_mono (Kd.R_far (p := ⟨gb443, 1, none⟩) (Kd.R_far (p := ⟨gb443, 0, none⟩) (Kd.R_mono HO441.out (fun k_ hk => (⟨hk, hk.2⟩ : _ ∧ k_ ≠ gb443))) (fun _ hk => hk.2) (.string ((rd_T22 y439 (ji3)).f0))) (fun _ hk => hk.2) (.bool ((rd_T22 y439 (ji3)).f1))) (fun _ h_ => h_.1))) hb); have n1_ := Aside0.mk (blk_below (g := gb443) (o := .cells #[.string ((rd_T22 y439 (ji3)).f0), .bool ((rd_T22 y439 (ji3)).f1)] 22 (0, 0)) (by (with_reducible repeat (first | refine blk_drewN ?_ _ | refine blk_drew ?_ | refine blk_alloc ?_ _)); refine blk_put (cs := #[.string ((rd_T22 y439 (ji3)).f0), .bool false]) ?_ 1 _ rfl; (with_reducible repeat (first | refine blk_drewN ?_ _ | refine blk_drew ?_ | refine blk_alloc ?_ _)); refine blk_put (cs := #[.string (⟨#[]⟩ : ByteArray), .bool false]) ?_ 0 _ rfl; (with_reducible repeat (first | refine blk_drewN ?_ _ | refine blk_drew ?_ | refine blk_alloc ?_ _)); exact BK443.out) hb); have n2_ := Aside0.mk (below_step (by repeat (first | (with_reducible first | exact HB.out | apply below_alloc | apply pw_below_drewN | apply below_drew1 | refine below_set ?_ GE443.out) | exact HB.out)) hb); clear HO441; clear BK443; clear HB; have HO441 := n0_; have BK443 := n1_; have HB := n2_; clear n0_ n1_ n2_; (try clear hb); (try clear hb2); (try clear hk); (try clear hi)) | ((with_reducible refine gate_dst (N := 5) rfl ?_); refine box_event ?hg (N := 5) ?hd (cs := #[.string (⟨#[]⟩ : ByteArray), .string (⟨#[]⟩ : ByteArray), .string (⟨#[]⟩ : ByteArray), .string (⟨#[]⟩ : ByteArray), .string (⟨#[]⟩ : ByteArray), .string (⟨#[]⟩ : ByteArray)]) (t := 29) ?hr ?_; (case hd => rfl); (case hg => rfl); (case hr => first | (go_simp; done) | (go_simp; rfl)); intro gb451 hg w34 hbox hb; have n0_ := Aside0.mk (Kd.R_below (by (with_reducible repeat (first | apply Kd.R_alloc | apply Kd.R_drewN | apply Kd.R_drew)); exact HO441.out) hb); have n1_ := Aside0.mk (blk_below (g := gb443) (o := .cells #[.string ((rd_T22 y439 (ji3)).f0), .bool ((rd_T22 y439 (ji3)).f1)] 22 (0, 0)) (by (with_reducible repeat (first | refine blk_drewN ?_ _ | refine blk_drew ?_ | refine blk_alloc ?_ _)); exact BK443.out) hb); have n2_ := Aside0.mk (below_step (by repeat (first | (with_reducible first | exact HB.out | apply below_alloc | apply pw_below_drewN | apply below_drew1 | refine below_set ?_ GE443.out) | exact HB.out)) hb); have n3_ := Aside0.mk (hbox); have n4_ := Aside0.mk ((by rw [hg]; exact (below_size (by repeat (first | (with_reducible first | exact HB.out | apply below_alloc | apply pw_below_drewN | apply below_drew1 | refine below_set ?_ GE443.out) | exact HB.out))) : w.heap.size ≤ gb451)); have n5_ := Aside0.mk ((by rw [hg]; exact (below_size (by repeat (first | (with_reducible first | exact HB.out | apply below_alloc | apply pw_below_drewN | apply below_drew1 | refine below_set ?_ GE443.out) | exact HB.out))) : w.heap.size ≤ gb451)); have n6_ := Aside0.mk ((by rw [hg]; exact Nat.ne_of_lt (blk_lt (g := gb443) (o := .cells #[.string ((rd_T22 y439 (ji3)).f0), .bool ((rd_T22 y439 (ji3)).f1)] 22 (0, 0)) (by (with_reducible repeat (first | refine blk_drewN ?_ _ | refine blk_drew ?_ | refine blk_alloc ?_ _)); exact BK443.out)) : gb443 ≠ gb451)); have n7_ := Aside0.mk ((by rw [hg]; exact Nat.ne_of_gt (blk_lt (g := gb443) (o := .cells #[.string ((rd_T22 y439 (ji3)).f0), .bool ((rd_T22 y439 (ji3)).f1)] 22 (0, 0)) (by (with_reducible repeat (first | refine blk_drewN ?_ _ | refine blk_drew ?_ | refine blk_alloc ?_ _)); exact BK443.out)) : gb451 ≠ gb443)); clear HO441; clear BK443; clear HB; have HO441 := n0_; have BK443 := n1_; have HB := n2_; have BK451 := n3_; have GW451 := n4_; have GE451 := n5_; have NB443_451 := n6_; have NB451_443 := n7_; clear n0_ n1_ n2_ n3_ n4_ n5_ n6_ n7_; clear hb hbox hg; have hnb35 := NB451_443.out; have hnc35 := NB443_451.out; have hcz36_0 : w34.cell? ⟨gb451, 0, none⟩ = some (.string (⟨#[]⟩ : ByteArray)) := (blk_cell BK451.out 0).trans rfl; have hcz36_1 : w34.cell? ⟨gb451, 1, none⟩ = some (.string (⟨#[]⟩ : ByteArray)) := (blk_cell BK451.out 1).trans rfl; have hcz36_2 : w34.cell? ⟨gb451, 2, none⟩ = some (.string (⟨#[]⟩ : ByteArray)) := (blk_cell BK451.out 2).trans rfl; have hcz36_3 : w34.cell? ⟨gb451, 3, none⟩ = some (.string (⟨#[]⟩ : ByteArray)) := (blk_cell BK451.out 3).trans rfl; have hcz36_4 : w34.cell? ⟨gb451, 4, none⟩ = some (.string (⟨#[]⟩ : ByteArray)) := (blk_cell BK451.out 4).trans rfl; have hcz36_5 : w34.cell? ⟨gb451, 5, none⟩ = some (.string (⟨#[]⟩ : ByteArray)) := (blk_cell BK451.out 5).trans rfl; have hfz36_0 := blk_frozen BK451.out 0; have hfz36_1 := blk_frozen BK451.out 1; have hfz36_2 := blk_frozen BK451.out 2; have hfz36_3 := blk_frozen BK451.out 3; have hfz36_4 := blk_frozen BK451.out 4; have hfz36_5 := blk_frozen BK451.out 5))
                have n0_ : Aside0 (Kd.R k22 22 ((((((w34.setCell ⟨gb451, 0, none⟩ (.string t444)).setCell ⟨gb451, 1, none⟩ (.string t445)).setCell ⟨gb451, 2, none⟩ (.string t446)).setCell ⟨gb451, 3, none⟩ (.string t447)).setCell ⟨gb451, 4, none⟩ (.string t448)).setCell ⟨gb451, 5, none⟩ (.string t449)) w.heap.size (fun k_ => k_ ≠ gb443) (.slice (some ad442) y439.length co30) y439) := ⟨by (with_reducible repeat (first | apply Kd.R_alloc | apply Kd.R_drewN | apply Kd.R_drew)); exact Kd.R_mono (Kd.R_far (p := ⟨gb451, 5, none⟩) (Kd.R_far (p := ⟨gb451, 4, none⟩) (Kd.R_far (p := ⟨gb451, 3, none⟩) (Kd.R_far (p := ⟨gb451, 2, none⟩) (Kd.R_far (p := ⟨gb451, 1, none⟩) (Kd.R_far (p := ⟨gb451, 0, none⟩) (Kd.R_types HO441.out BK451.out (by decide)) (fun _ hk => hk.2) (.string t444)) (fun _ hk => hk.2) (.string t445)) (fun _ hk => hk.2) (.string t446)) (fun _ hk => hk.2) (.string t447)) (fun _ hk => hk.2) (.string t448)) (fun _ hk => hk.2) (.string t449)) (fun _ hk => hk.1.2)⟩
                have n1_ : Aside0 (((((((w34.setCell ⟨gb451, 0, none⟩ (.string t444)).setCell ⟨gb451, 1, none⟩ (.string t445)).setCell ⟨gb451, 2, none⟩ (.string t446)).setCell ⟨gb451, 3, none⟩ (.string t447)).setCell ⟨gb451, 4, none⟩ (.string t448)).setCell ⟨gb451, 5, none⟩ (.string t449)).heap[gb443]? = some (.cells #[.string ((rd_T22 y439 (ji3)).f0), .bool ((rd_T22 y439 (ji3)).f1)] 22 (0, 0))) := ⟨by (with_reducible repeat (first | refine blk_drewN ?_ _ | refine blk_drew ?_ | refine blk_alloc ?_ _)); refine blk_far ?_ NB443_451.out _; (with_reducible repeat (first | refine blk_drewN ?_ _ | refine blk_drew ?_ | refine blk_alloc ?_ _)); refine blk_far ?_ NB443_451.out _; (with_reducible repeat (first | refine blk_drewN ?_ _ | refine blk_drew ?_ | refine blk_alloc ?_ _)); refine blk_far ?_ NB443_451.out _; (with_reducible repeat (first | refine blk_drewN ?_ _ | refine blk_drew ?_ | refine blk_alloc ?_ _)); refine blk_far ?_ NB443_451.out _; (with_reducible repeat (first | refine blk_drewN ?_ _ | refine blk_drew ?_ | refine blk_alloc ?_ _)); refine blk_far ?_ NB443_451.out _; (with_reducible repeat (first | refine blk_drewN ?_ _ | refine blk_drew ?_ | refine blk_alloc ?_ _)); refine blk_far ?_ NB443_451.out _; (with_reducible repeat (first | refine blk_drewN ?_ _ | refine blk_drew ?_ | refine blk_alloc ?_ _)); exact BK443.out⟩
                have n2_ : Aside0 (((((((w34.setCell ⟨gb451, 0, none⟩ (.string t444)).setCell ⟨gb451, 1, none⟩ (.string t445)).setCell ⟨gb451, 2, none⟩ (.string t446)).setCell ⟨gb451, 3, none⟩ (.string t447)).setCell ⟨gb451, 4, none⟩ (.string t448)).setCell ⟨gb451, 5, none⟩ (.string t449)).heap[gb451]? = some (.cells #[.string t444, .string t445, .string t446, .string t447, .string t448, .string t449] 29 (0, 0))) := ⟨by (with_reducible repeat (first | refine blk_drewN ?_ _ | refine blk_drew ?_ | refine blk_alloc ?_ _)); refine blk_put (cs := #[.string t444, .string t445, .string t446, .string t447, .string t448, .string (⟨#[]⟩ : ByteArray)]) ?_ 5 _ rfl; (with_reducible repeat (first | refine blk_drewN ?_ _ | refine blk_drew ?_ | refine blk_alloc ?_ _)); refine blk_put (cs := #[.string t444, .string t445, .string t446, .string t447, .string (⟨#[]⟩ : ByteArray), .string (⟨#[]⟩ : ByteArray)]) ?_ 4 _ rfl; (with_reducible repeat (first | refine blk_drewN ?_ _ | refine blk_drew ?_ | refine blk_alloc ?_ _)); refine blk_put (cs := #[.string t444, .string t445, .string t446, .string (⟨#[]⟩ : ByteArray), .string (⟨#[]⟩ : ByteArray), .string (⟨#[]⟩ : ByteArray)]) ?_ 3 _ rfl; (with_reducible repeat (first | refine blk_drewN ?_ _ | refine blk_drew ?_ | refine blk_alloc ?_ _)); refine blk_put (cs := #[.string t444, .string t445, .string (⟨#[]⟩ : ByteArray), .string (⟨#[]⟩ : ByteArray), .string (⟨#[]⟩ : ByteArray), .string (⟨#[]⟩ : ByteArray)]) ?_ 2 _ rfl; (with_reducible repeat (first | refine blk_drewN ?_ _ | refine blk_drew ?_ | refine blk_alloc ?_ _)); refine blk_put (cs := #[.string t444, .string (⟨#[]⟩ : ByteArray), .string (⟨#[]⟩ : ByteArray), .string (⟨#[]⟩ : ByteArray), .string (⟨#[]⟩ : ByteArray), .string (⟨#[]⟩ : ByteArray)]) ?_ 1 _ rfl; (with_reducible repeat (first | refine blk_drewN ?_ _ | refine blk_drew ?_ | refine blk_alloc ?_ _)); refine blk_put (cs := #[.string (⟨#[]⟩ : ByteArray), .string (⟨#[]⟩ : ByteArray), .string (⟨#[]⟩ : ByteArray), .string (⟨#[]⟩ : ByteArray), .string (⟨#[]⟩ : ByteArray), .string (⟨#[]⟩ : ByteArray)]) ?_ 0 _ rfl; (with_reducible repeat (first | refine blk_drewN ?_ _ | refine blk_drew ?_ | refine blk_alloc ?_ _)); exact BK451.out⟩
                have n3_ : Aside0 (Below w.heap.size w ((((((w34.setCell ⟨gb451, 0, none⟩ (.string t444)).setCell ⟨gb451, 1, none⟩ (.string t445)).setCell ⟨gb451, 2, none⟩ (.string t446)).setCell ⟨gb451, 3, none⟩ (.string t447)).setCell ⟨gb451, 4, none⟩ (.string t448)).setCell ⟨gb451, 5, none⟩ (.string t449))) := ⟨by repeat (first | (with_reducible first | exact HB.out | apply below_alloc | apply pw_below_drewN | apply below_drew1 | refine below_set ?_ GE443.out | refine below_set ?_ GE451.out) | exact HB.out)⟩
                (try clear HO441)
                (try clear BK443)
                (try clear BK451)
                (try clear HB)
                generalize ((((((w34.setCell ⟨gb451, 0, none⟩ (.string t444)).setCell ⟨gb451, 1, none⟩ (.string t445)).setCell ⟨gb451, 2, none⟩ (.string t446)).setCell ⟨gb451, 3, none⟩ (.string t447)).setCell ⟨gb451, 4, none⟩ (.string t448)).setCell ⟨gb451, 5, none⟩ (.string t449)) = w37 at n0_ n1_ n2_ n3_ ⊢
                have HO441 := n0_
                have BK443 := n1_
                have BK451 := n2_
                have HB := n3_
                clear n0_ n1_ n2_ n3_
                have n0_ := Aside0.mk (Kd.R_drew HO441.out)
                have n1_ := Aside0.mk (blk_drew BK443.out)
                have n2_ := Aside0.mk (blk_drew BK451.out)
                have n3_ := Aside0.mk (below_drew1 HB.out)
                clear HO441
                clear BK443
                clear BK451
                clear HB
                have HO441 := n0_
                have BK443 := n1_
                have BK451 := n2_
                have HB := n3_
                clear n0_ n1_ n2_ n3_
                refine start_ (n := 30) (S := fun w' => w'.cell? ⟨gb443, 0, none⟩ = some (.string ((rd_T22 y439 (ji3)).f0)) ∧ w'.cell? ⟨gb443, 1, none⟩ = some (.bool ((rd_T22 y439 (ji3)).f1)) ∧ w'.cell? ⟨gb451, 0, none⟩ = some (.string t444) ∧ w'.cell? ⟨gb451, 1, none⟩ = some (.string t445) ∧ w'.cell? ⟨gb451, 2, none⟩ = some (.string t446) ∧ w'.cell? ⟨gb451, 3, none⟩ = some (.string t447) ∧ w'.cell? ⟨gb451, 4, none⟩ = some (.string t448) ∧ w'.cell? ⟨gb451, 5, none⟩ = some (.string t449)) (ds := []) #[false, false, false, false, false, false, false, false, false, false, false, false, false, false, false, false, false, false, false, false, false, false, false, false, false, false, false, false, false, false] (by kernel_rfl) rfl rfl ⟨(blk_cell BK443.out 0).trans rfl, (blk_cell BK443.out 1).trans rfl, (blk_cell BK451.out 0).trans rfl, (blk_cell BK451.out 1).trans rfl, (blk_cell BK451.out 2).trans rfl, (blk_cell BK451.out 3).trans rfl, (blk_cell BK451.out 4).trans rfl, (blk_cell BK451.out 5).trans rfl⟩ (fun hHeld => ?_); refine with_tabW entaillaw2_TuplForms.tab4 entaillaw2_TuplForms.bits4 (fun HT_ HW_ => ?_)
                generalize w37.drew = w38 at HO441 BK443 BK451 HB hHeld ⊢
                refine pure_ (i := 0) (N := some 43) (v := ?_) (a' := ?_) #[true, false, false, false, false, false, false, false, false, false, false, false, false, false, false, false, false, false, false, false, false, false, false, false, false, false, false, false, false, false] rfl rfl (any_of HT_.out (by kernel_rfl)) (fun _ _ _ h => h) (Or.inl ⟨by rfl, ?_⟩) ?_ ?_
                rotate_left
                · intro w'
                  go_simp
                  with_reducible rfl
                rotate_left
                · simp only [Act.put, List.setIfInBounds_toArray, List.set_cons_zero, List.set_cons_succ, i64_w, i32_w]
                  rfl
                refine pure_ (i := 1) (N := some 44) (v := ?_) (a' := ?_) #[true, true, false, false, false, false, false, false, false, false, false, false, false, false, false, false, false, false, false, false, false, false, false, false, false, false, false, false, false, false] rfl rfl (any_of HT_.out (by kernel_rfl)) (fun _ _ _ h => h) (Or.inl ⟨by rfl, ?_⟩) ?_ ?_
                rotate_left
                · intro w'
                  go_simp
                  with_reducible rfl
                rotate_left
                · simp only [Act.put, List.setIfInBounds_toArray, List.set_cons_zero, List.set_cons_succ, i64_w, i32_w]
                  rfl
                refine take_ (i := 2) (N := some 45) (v := ?_) (a' := ?_) #[true, true, true, false, false, false, false, false, false, false, false, false, false, false, false, false, false, false, false, false, false, false, false, false, false, false, false, false, false, false] rfl rfl (take_ofW HT_.out HW_.out (by kernel_rfl)) (fun _ _ _ h => h) (Or.inl ⟨by rfl, ?_⟩) hHeld ?_ ?_
                rotate_left
                · rintro w' ⟨s0, s1, s2, s3, s4, s5, s6, s7⟩
                  go_simp
                  with_reducible rfl
                rotate_left
                · simp only [Act.put, List.setIfInBounds_toArray, List.set_cons_zero, List.set_cons_succ, i64_w, i32_w]
                  rfl
                refine pure_ (i := 3) (N := some 46) (v := ?_) (a' := ?_) #[true, true, true, true, false, false, false, false, false, false, false, false, false, false, false, false, false, false, false, false, false, false, false, false, false, false, false, false, false, false] rfl rfl (any_of HT_.out (by kernel_rfl)) (fun _ _ _ h => h) (Or.inl ⟨by rfl, ?_⟩) ?_ ?_
                rotate_left
                · intro w'
                  go_simp
                  with_reducible rfl
                rotate_left
                · simp only [Act.put, List.setIfInBounds_toArray, List.set_cons_zero, List.set_cons_succ, i64_w, i32_w]
                  rfl
                refine pure_ (i := 4) (N := some 47) (v := ?_) (a' := ?_) #[true, true, true, true, true, false, false, false, false, false, false, false, false, false, false, false, false, false, false, false, false, false, false, false, false, false, false, false, false, false] rfl rfl (any_of HT_.out (by kernel_rfl)) (fun _ _ _ h => h) (Or.inl ⟨by rfl, ?_⟩) ?_ ?_
                rotate_left
                · intro w'
                  go_simp
                  with_reducible rfl
                rotate_left
                · simp only [Act.put, List.setIfInBounds_toArray, List.set_cons_zero, List.set_cons_succ, i64_w, i32_w]
                  rfl
                refine pure_ (i := 7) (N := some 50) (v := ?_) (a' := ?_) #[true, true, true, true, true, false, false, true, false, false, false, false, false, false, false, false, false, false, false, false, false, false, false, false, false, false, false, false, false, false] rfl rfl (any_of HT_.out (by kernel_rfl)) (fun _ _ _ h => h) (Or.inl ⟨by rfl, ?_⟩) ?_ ?_
                rotate_left
                · intro w'
                  go_simp
                  with_reducible rfl
                rotate_left
                · simp only [Act.put, List.setIfInBounds_toArray, List.set_cons_zero, List.set_cons_succ, i64_w, i32_w]
                  rfl
                refine pure_ (i := 10) (N := some 53) (v := ?_) (a' := ?_) #[true, true, true, true, true, false, false, true, false, false, true, false, false, false, false, false, false, false, false, false, false, false, false, false, false, false, false, false, false, false] rfl rfl (any_of HT_.out (by kernel_rfl)) (fun _ _ _ h => h) (Or.inl ⟨by rfl, ?_⟩) ?_ ?_
                rotate_left
                · intro w'
                  go_simp
                  with_reducible rfl
                rotate_left
                · simp only [Act.put, List.setIfInBounds_toArray, List.set_cons_zero, List.set_cons_succ, i64_w, i32_w]
                  rfl
                refine take_ (i := 5) (N := some 48) (v := ?_) (a' := ?_) #[true, true, true, true, true, true, false, true, false, false, true, false, false, false, false, false, false, false, false, false, false, false, false, false, false, false, false, false, false, false] rfl rfl (take_ofW HT_.out HW_.out (by kernel_rfl)) (fun _ _ _ h => h) (Or.inl ⟨by rfl, ?_⟩) hHeld ?_ ?_
                rotate_left
                · rintro w' ⟨s0, s1, s2, s3, s4, s5, s6, s7⟩
                  go_simp
                  with_reducible rfl
                rotate_left
                · simp only [Act.put, List.setIfInBounds_toArray, List.set_cons_zero, List.set_cons_succ, i64_w, i32_w]
                  rfl
                refine take_ (i := 8) (N := some 51) (v := ?_) (a' := ?_) #[true, true, true, true, true, true, false, true, true, false, true, false, false, false, false, false, false, false, false, false, false, false, false, false, false, false, false, false, false, false] rfl rfl (take_ofW HT_.out HW_.out (by kernel_rfl)) (fun _ _ _ h => h) (Or.inl ⟨by rfl, ?_⟩) hHeld ?_ ?_
                rotate_left
                · rintro w' ⟨s0, s1, s2, s3, s4, s5, s6, s7⟩
                  go_simp
                  with_reducible rfl
                rotate_left
                · simp only [Act.put, List.setIfInBounds_toArray, List.set_cons_zero, List.set_cons_succ, i64_w, i32_w]
                  rfl
                refine one_ (i := 6) (N := some 49) #[true, true, true, true, true, true, true, true, true, false, true, false, false, false, false, false, false, false, false, false, false, false, false, false, false, false, false, false, false, false] rfl rfl (one_of HT_.out (by kernel_rfl)) (by decide) (fun K hK => ?_)
                refine goes_ Try.func13 (by kernel_rfl) rfl #[.agg #[.string t444, .string t445, .string t446, .string t447, .string t448, .string t449]] (by rfl) rfl rfl (by (try simp only [List.map_toArray, List.map_cons, List.map_nil]); first | done | rfl | (simp only [List.length_drop, List.length_take]; rfl)) ?_
                with_reducible refine (tupl_Text.calls k t444 t445 t446 t447 t448 t449 t452 _ A8.out).mono ?_
                rintro e w39 ⟨rfl, hb⟩
                refine ⟨_, rfl, ?_⟩
                have n0_ := Aside0.mk (Kd.R_below (by (with_reducible repeat (first | apply Kd.R_alloc | apply Kd.R_drewN | apply Kd.R_drew)); exact HO441.out) hb)
                have n1_ := Aside0.mk (blk_below (g := gb443) (o := .cells #[.string ((rd_T22 y439 (ji3)).f0), .bool ((rd_T22 y439 (ji3)).f1)] 22 (0, 0)) (by (with_reducible repeat (first | refine blk_drewN ?_ _ | refine blk_drew ?_ | refine blk_alloc ?_ _)); exact BK443.out) hb)
                have n2_ := Aside0.mk (blk_below (g := gb451) (o := .cells #[.string t444, .string t445, .string t446, .string t447, .string t448, .string t449] 29 (0, 0)) (by (with_reducible repeat (first | refine blk_drewN ?_ _ | refine blk_drew ?_ | refine blk_alloc ?_ _)); exact BK451.out) hb)
                have n3_ := Aside0.mk (below_step (by repeat (first | (with_reducible first | exact HB.out | apply below_alloc | apply pw_below_drewN | apply below_drew1 | refine below_set ?_ GE443.out | refine below_set ?_ GE451.out) | exact HB.out)) hb)
                clear HO441
                clear BK443
                clear BK451
                clear HB
                have HO441 := n0_
                have BK443 := n1_
                have BK451 := n2_
                have HB := n3_
                clear n0_ n1_ n2_ n3_
                (try clear hb)
                (try clear hb2)
                (try clear hk)
                (try clear hi)
                refine hK.out _ _ ⟨(blk_cell BK443.out 0).trans rfl, (blk_cell BK443.out 1).trans rfl, (blk_cell BK451.out 0).trans rfl, (blk_cell BK451.out 1).trans rfl, (blk_cell BK451.out 2).trans rfl, (blk_cell BK451.out 3).trans rfl, (blk_cell BK451.out 4).trans rfl, (blk_cell BK451.out 5).trans rfl⟩ (fun hHeld => ?_)
                clear hK K
                refine norm_ (a' := ?_) ?_ ?_
                rotate_left
                · show Act.put _ (some 49) _ = _
                  simp only [Act.put, List.setIfInBounds_toArray, List.set_cons_zero, List.set_cons_succ, i64_w, i32_w]
                  rfl
                refine pure_ (i := 9) (N := some 52) (v := ?_) (a' := ?_) #[true, true, true, true, true, true, true, true, true, true, true, false, false, false, false, false, false, false, false, false, false, false, false, false, false, false, false, false, false, false] rfl rfl (any_of HT_.out (by kernel_rfl)) (fun _ _ _ h => h) (Or.inl ⟨by rfl, ?_⟩) ?_ ?_
                rotate_left
                · intro w'
                  go_simp
                  with_reducible rfl
                rotate_left
                · simp only [Act.put, List.setIfInBounds_toArray, List.set_cons_zero, List.set_cons_succ, i64_w, i32_w]
                  rfl
                refine pure_ (i := 11) (N := some 54) (v := ?_) (a' := ?_) #[true, true, true, true, true, true, true, true, true, true, true, true, false, false, false, false, false, false, false, false, false, false, false, false, false, false, false, false, false, false] rfl rfl (any_of HT_.out (by kernel_rfl)) (fun _ _ _ h => h) (Or.inl ⟨by rfl, ?_⟩) ?_ ?_
                rotate_left
                · intro w'
                  go_simp
                  with_reducible rfl
                rotate_left
                · simp only [Act.put, List.setIfInBounds_toArray, List.set_cons_zero, List.set_cons_succ, i64_w, i32_w]
                  rfl
                refine pure_ (i := 12) (N := some 55) (v := ?_) (a' := ?_) #[true, true, true, true, true, true, true, true, true, true, true, true, true, false, false, false, false, false, false, false, false, false, false, false, false, false, false, false, false, false] rfl rfl (any_of HT_.out (by kernel_rfl)) (fun _ _ _ h => h) (Or.inl ⟨by rfl, ?_⟩) ?_ ?_
                rotate_left
                · intro w'
                  go_simp
                  with_reducible rfl
                rotate_left
                · simp only [Act.put, List.setIfInBounds_toArray, List.set_cons_zero, List.set_cons_succ, i64_w, i32_w]
                  rfl
                refine take_ (i := 13) (N := some 56) (v := ?_) (a' := ?_) #[true, true, true, true, true, true, true, true, true, true, true, true, true, true, false, false, false, false, false, false, false, false, false, false, false, false, false, false, false, false] rfl rfl (take_ofW HT_.out HW_.out (by kernel_rfl)) (fun _ _ _ h => h) (Or.inl ⟨by rfl, ?_⟩) hHeld ?_ ?_
                rotate_left
                · rintro w' ⟨s0, s1, s2, s3, s4, s5, s6, s7⟩
                  go_simp
                  with_reducible rfl
                rotate_left
                · simp only [Act.put, List.setIfInBounds_toArray, List.set_cons_zero, List.set_cons_succ, i64_w, i32_w]
                  rfl
                refine pure_ (i := 14) (N := some 57) (v := ?_) (a' := ?_) #[true, true, true, true, true, true, true, true, true, true, true, true, true, true, true, false, false, false, false, false, false, false, false, false, false, false, false, false, false, false] rfl rfl (any_of HT_.out (by kernel_rfl)) (fun _ _ _ h => h) (Or.inl ⟨by rfl, ?_⟩) ?_ ?_
                rotate_left
                · intro w'
                  go_simp
                  with_reducible rfl
                rotate_left
                · simp only [Act.put, List.setIfInBounds_toArray, List.set_cons_zero, List.set_cons_succ, i64_w, i32_w]
                  rfl
                refine pure_ (i := 15) (N := some 58) (v := ?_) (a' := ?_) #[true, true, true, true, true, true, true, true, true, true, true, true, true, true, true, true, false, false, false, false, false, false, false, false, false, false, false, false, false, false] rfl rfl (any_of HT_.out (by kernel_rfl)) (fun _ _ _ h => h) (Or.inl ⟨by rfl, ?_⟩) ?_ ?_
                rotate_left
                · intro w'
                  go_simp
                  with_reducible rfl
                rotate_left
                · simp only [Act.put, List.setIfInBounds_toArray, List.set_cons_zero, List.set_cons_succ, i64_w, i32_w]
                  rfl
                refine pure_ (i := 16) (N := some 59) (v := ?_) (a' := ?_) #[true, true, true, true, true, true, true, true, true, true, true, true, true, true, true, true, true, false, false, false, false, false, false, false, false, false, false, false, false, false] rfl rfl (any_of HT_.out (by kernel_rfl)) (fun _ _ _ h => h) (Or.inl ⟨by rfl, ?_⟩) ?_ ?_
                rotate_left
                · intro w'
                  go_simp
                  with_reducible rfl
                rotate_left
                · simp only [Act.put, List.setIfInBounds_toArray, List.set_cons_zero, List.set_cons_succ, i64_w, i32_w]
                  rfl
                refine pure_ (i := 17) (N := some 60) (v := ?_) (a' := ?_) #[true, true, true, true, true, true, true, true, true, true, true, true, true, true, true, true, true, true, false, false, false, false, false, false, false, false, false, false, false, false] rfl rfl (any_of HT_.out (by kernel_rfl)) (fun _ _ _ h => h) (Or.inl ⟨by rfl, ?_⟩) ?_ ?_
                rotate_left
                · intro w'
                  go_simp
                  with_reducible rfl
                rotate_left
                · simp only [Act.put, List.setIfInBounds_toArray, List.set_cons_zero, List.set_cons_succ, i64_w, i32_w]
                  rfl
                refine pure_ (i := 18) (N := some 61) (v := ?_) (a' := ?_) #[true, true, true, true, true, true, true, true, true, true, true, true, true, true, true, true, true, true, true, false, false, false, false, false, false, false, false, false, false, false] rfl rfl (any_of HT_.out (by kernel_rfl)) (fun _ _ _ h => h) (Or.inl ⟨by rfl, ?_⟩) ?_ ?_
                rotate_left
                · intro w'
                  go_simp
                  with_reducible rfl
                rotate_left
                · simp only [Act.put, List.setIfInBounds_toArray, List.set_cons_zero, List.set_cons_succ, i64_w, i32_w]
                  rfl
                refine pure_ (i := 19) (N := some 62) (v := ?_) (a' := ?_) #[true, true, true, true, true, true, true, true, true, true, true, true, true, true, true, true, true, true, true, true, false, false, false, false, false, false, false, false, false, false] rfl rfl (any_of HT_.out (by kernel_rfl)) (fun _ _ _ h => h) (Or.inl ⟨by rfl, ?_⟩) ?_ ?_
                rotate_left
                · intro w'
                  go_simp
                  with_reducible rfl
                rotate_left
                · simp only [Act.put, List.setIfInBounds_toArray, List.set_cons_zero, List.set_cons_succ, i64_w, i32_w]
                  rfl
                refine pure_ (i := 20) (N := some 63) (v := ?_) (a' := ?_) #[true, true, true, true, true, true, true, true, true, true, true, true, true, true, true, true, true, true, true, true, true, false, false, false, false, false, false, false, false, false] rfl rfl (any_of HT_.out (by kernel_rfl)) (fun _ _ _ h => h) (Or.inl ⟨by rfl, ?_⟩) ?_ ?_
                rotate_left
                · intro w'
                  go_simp
                  with_reducible rfl
                rotate_left
                · simp only [Act.put, List.setIfInBounds_toArray, List.set_cons_zero, List.set_cons_succ, i64_w, i32_w]
                  rfl
                refine pure_ (i := 22) (N := some 65) (v := ?_) (a' := ?_) #[true, true, true, true, true, true, true, true, true, true, true, true, true, true, true, true, true, true, true, true, true, false, true, false, false, false, false, false, false, false] rfl rfl (any_of HT_.out (by kernel_rfl)) (fun _ _ _ h => h) (Or.inl ⟨by rfl, ?_⟩) ?_ ?_
                rotate_left
                · intro w'
                  go_simp
                  with_reducible rfl
                rotate_left
                · simp only [Act.put, List.setIfInBounds_toArray, List.set_cons_zero, List.set_cons_succ, i64_w, i32_w]
                  rfl
                refine take_ (i := 21) (N := some 64) (v := ?_) (a' := ?_) #[true, true, true, true, true, true, true, true, true, true, true, true, true, true, true, true, true, true, true, true, true, true, true, false, false, false, false, false, false, false] rfl rfl (take_ofW HT_.out HW_.out (by kernel_rfl)) (fun _ _ _ h => h) (Or.inl ⟨by rfl, ?_⟩) hHeld ?_ ?_
                rotate_left
                · rintro w' ⟨s0, s1, s2, s3, s4, s5, s6, s7⟩
                  go_simp
                  with_reducible rfl
                rotate_left
                · simp only [Act.put, List.setIfInBounds_toArray, List.set_cons_zero, List.set_cons_succ, i64_w, i32_w]
                  rfl
                refine pure_ (i := 23) (N := some 66) (v := ?_) (a' := ?_) #[true, true, true, true, true, true, true, true, true, true, true, true, true, true, true, true, true, true, true, true, true, true, true, true, false, false, false, false, false, false] rfl rfl (any_of HT_.out (by kernel_rfl)) (fun _ _ _ h => h) (Or.inl ⟨by rfl, ?_⟩) ?_ ?_
                rotate_left
                · intro w'
                  go_simp
                  with_reducible rfl
                rotate_left
                · simp only [Act.put, List.setIfInBounds_toArray, List.set_cons_zero, List.set_cons_succ, i64_w, i32_w]
                  rfl
                refine pure_ (i := 24) (N := some 67) (v := ?_) (a' := ?_) #[true, true, true, true, true, true, true, true, true, true, true, true, true, true, true, true, true, true, true, true, true, true, true, true, true, false, false, false, false, false] rfl rfl (any_of HT_.out (by kernel_rfl)) (fun _ _ _ h => h) (Or.inl ⟨by rfl, ?_⟩) ?_ ?_
                rotate_left
                · intro w'
                  go_simp
                  with_reducible rfl
                rotate_left
                · simp only [Act.put, List.setIfInBounds_toArray, List.set_cons_zero, List.set_cons_succ, i64_w, i32_w]
                  rfl
                refine pure_ (i := 25) (N := some 68) (v := ?_) (a' := ?_) #[true, true, true, true, true, true, true, true, true, true, true, true, true, true, true, true, true, true, true, true, true, true, true, true, true, true, false, false, false, false] rfl rfl (any_of HT_.out (by kernel_rfl)) (fun _ _ _ h => h) (Or.inl ⟨by rfl, ?_⟩) ?_ ?_
                rotate_left
                · intro w'
                  go_simp
                  with_reducible rfl
                rotate_left
                · simp only [Act.put, List.setIfInBounds_toArray, List.set_cons_zero, List.set_cons_succ, i64_w, i32_w]
                  rfl
                refine pure_ (i := 26) (N := some 69) (v := ?_) (a' := ?_) #[true, true, true, true, true, true, true, true, true, true, true, true, true, true, true, true, true, true, true, true, true, true, true, true, true, true, true, false, false, false] rfl rfl (any_of HT_.out (by kernel_rfl)) (fun _ _ _ h => h) (Or.inl ⟨by rfl, ?_⟩) ?_ ?_
                rotate_left
                · intro w'
                  go_simp
                  with_reducible rfl
                rotate_left
                · simp only [Act.put, List.setIfInBounds_toArray, List.set_cons_zero, List.set_cons_succ, i64_w, i32_w]
                  rfl
                refine one_ (i := 27) (N := some 70) #[true, true, true, true, true, true, true, true, true, true, true, true, true, true, true, true, true, true, true, true, true, true, true, true, true, true, true, true, false, false] rfl rfl (one_of HT_.out (by kernel_rfl)) (by decide) (fun K hK => ?_)
                refine goes_ Try.func14 (by kernel_rfl) rfl #[] (by rfl) rfl rfl (by (try simp only [List.map_toArray, List.map_cons, List.map_nil]); first | done | rfl | (simp only [List.length_drop, List.length_take]; rfl)) ?_
                with_reducible refine (entaillaw2_awake.calls k  t454 _ A27.out).mono ?_
                rintro e w40 ⟨rfl, hb⟩
                refine ⟨_, rfl, ?_⟩
                have n0_ := Aside0.mk (Kd.R_below (by (with_reducible repeat (first | apply Kd.R_alloc | apply Kd.R_drewN | apply Kd.R_drew)); exact HO441.out) hb)
                have n1_ := Aside0.mk (blk_below (g := gb443) (o := .cells #[.string ((rd_T22 y439 (ji3)).f0), .bool ((rd_T22 y439 (ji3)).f1)] 22 (0, 0)) (by (with_reducible repeat (first | refine blk_drewN ?_ _ | refine blk_drew ?_ | refine blk_alloc ?_ _)); exact BK443.out) hb)
                have n2_ := Aside0.mk (blk_below (g := gb451) (o := .cells #[.string t444, .string t445, .string t446, .string t447, .string t448, .string t449] 29 (0, 0)) (by (with_reducible repeat (first | refine blk_drewN ?_ _ | refine blk_drew ?_ | refine blk_alloc ?_ _)); exact BK451.out) hb)
                have n3_ := Aside0.mk (below_step (by repeat (first | (with_reducible first | exact HB.out | apply below_alloc | apply pw_below_drewN | apply below_drew1 | refine below_set ?_ GE443.out | refine below_set ?_ GE451.out) | exact HB.out)) hb)
                clear HO441
                clear BK443
                clear BK451
                clear HB
                have HO441 := n0_
                have BK443 := n1_
                have BK451 := n2_
                have HB := n3_
                clear n0_ n1_ n2_ n3_
                (try clear hb)
                (try clear hb2)
                (try clear hk)
                (try clear hi)
                refine hK.out _ _ ⟨(blk_cell BK443.out 0).trans rfl, (blk_cell BK443.out 1).trans rfl, (blk_cell BK451.out 0).trans rfl, (blk_cell BK451.out 1).trans rfl, (blk_cell BK451.out 2).trans rfl, (blk_cell BK451.out 3).trans rfl, (blk_cell BK451.out 4).trans rfl, (blk_cell BK451.out 5).trans rfl⟩ (fun hHeld => ?_)
                clear hK K
                refine norm_ (a' := ?_) ?_ ?_
                rotate_left
                · show Act.put _ (some 70) _ = _
                  simp only [Act.put, List.setIfInBounds_toArray, List.set_cons_zero, List.set_cons_succ, i64_w, i32_w]
                  rfl
                refine pure_ (i := 28) (N := some 71) (v := ?_) (a' := ?_) #[true, true, true, true, true, true, true, true, true, true, true, true, true, true, true, true, true, true, true, true, true, true, true, true, true, true, true, true, true, false] rfl rfl (any_of HT_.out (by kernel_rfl)) (fun _ _ _ h => h) (Or.inl ⟨by rfl, ?_⟩) ?_ ?_
                rotate_left
                · intro w'
                  go_simp
                  with_reducible rfl
                rotate_left
                · simp only [Act.put, List.setIfInBounds_toArray, List.set_cons_zero, List.set_cons_succ, i64_w, i32_w]
                  rfl
                refine pure_ (i := 29) (N := some 2) (v := ?_) (a' := ?_) #[true, true, true, true, true, true, true, true, true, true, true, true, true, true, true, true, true, true, true, true, true, true, true, true, true, true, true, true, true, true] rfl rfl (any_of HT_.out (by kernel_rfl)) (fun _ _ _ h => h) (Or.inl ⟨by rfl, ?_⟩) ?_ ?_
                rotate_left
                · intro w'
                  go_simp
                  with_reducible rfl
                rotate_left
                · simp only [Act.put, List.setIfInBounds_toArray, List.set_cons_zero, List.set_cons_succ, i64_w, i32_w]
                  rfl
                refine done_ (done_of HT_.out (by kernel_rfl)) ?_
                try go_wp2
                go_ret
                exact ⟨by first | rfl | (simp [errW_none, errW_some] <;> rfl) | (simp only [← hji3]; first | rfl | (simp [errW_none, errW_some] <;> rfl)) | (simp [*, errW_none, errW_some] <;> rfl), by repeat (first | (with_reducible first | exact HB.out | apply below_alloc | apply pw_below_drewN | apply below_drew1 | refine below_set ?_ GE443.out | refine below_set ?_ GE451.out) | exact HB.out)⟩
              · rw [if_neg c26] at H
                have c26b0 : ((t444.toList == ([] : List UInt8) && (t445.toList == ([] : List UInt8))) && (t446.toList == ([] : List UInt8) && ((t447.toList == ([] : List UInt8) && (t448.toList == ([] : List UInt8) && (t449.toList == ([] : List UInt8))))))) = false := by simpa using c26
                (try (have c26zb0 : ((t444.toList.isEmpty && (t445.toList.isEmpty)) && (t446.toList.isEmpty && ((t447.toList.isEmpty && (t448.toList.isEmpty && (t449.toList.isEmpty)))))) = false := by have h_ : ∀ l : List UInt8, (l == ([] : List UInt8)) = l.isEmpty := (fun l => by cases l <;> rfl); have q_ := c26b0; simp only [h_] at q_; exact q_))
                clear c26
                exact absurd H (by simp)
            · rw [if_neg c25] at H
              have c25b0 : ((t452.toList == ((rd_T22 y439 (ji3)).f0).toList) == (((rd_T22 y439 (ji3)).f0).toList == ([] : List UInt8))) = false := by simpa using c25
              (try (have c25zb0 : ((t452.toList == ((rd_T22 y439 (ji3)).f0).toList) == (((rd_T22 y439 (ji3)).f0).toList.isEmpty)) = false := by have h_ : ∀ l : List UInt8, (l == ([] : List UInt8)) = l.isEmpty := (fun l => by cases l <;> rfl); have q_ := c25b0; simp only [h_] at q_; exact q_))
              (try (have c25b1 : decide ((t452.toList == ((rd_T22 y439 (ji3)).f0).toList) = (((rd_T22 y439 (ji3)).f0).toList == ([] : List UInt8))) = false := by simpa using c25))
              (try (have c25zb1 : decide ((t452.toList == ((rd_T22 y439 (ji3)).f0).toList) = (((rd_T22 y439 (ji3)).f0).toList.isEmpty)) = false := by have h_ : ∀ l : List UInt8, (l == ([] : List UInt8)) = l.isEmpty := (fun l => by cases l <;> rfl); have q_ := c25b1; simp only [h_] at q_; exact q_))
              (try (have c25b2 : ((t452.toList == ((rd_T22 y439 (ji3)).f0).toList) == (((rd_T22 y439 (ji3)).f0).toList == ([] : List UInt8))) = false := by simpa using c25))
              (try (have c25zb2 : ((t452.toList == ((rd_T22 y439 (ji3)).f0).toList) == (((rd_T22 y439 (ji3)).f0).toList.isEmpty)) = false := by have h_ : ∀ l : List UInt8, (l == ([] : List UInt8)) = l.isEmpty := (fun l => by cases l <;> rfl); have q_ := c25b2; simp only [h_] at q_; exact q_))
              (try (have c25b3 : ¬ ((t452.toList == ((rd_T22 y439 (ji3)).f0).toList) = (((rd_T22 y439 (ji3)).f0).toList == ([] : List UInt8))) := by simpa using c25))
              (try (have c25zb3 : ¬ ((t452.toList == ((rd_T22 y439 (ji3)).f0).toList) = (((rd_T22 y439 (ji3)).f0).toList.isEmpty)) := by have h_ : ∀ l : List UInt8, (l == ([] : List UInt8)) = l.isEmpty := (fun l => by cases l <;> rfl); have q_ := c25b3; simp only [h_] at q_; exact q_))
              clear c25
              exact absurd H (by simp)
        · rw [if_neg c7] at H
          have c7b0 : (t450 == ((rd_T22 y439 (ji3)).f1)) = false := by simpa using c7
          (try (have c7b1 : decide (t450 = ((rd_T22 y439 (ji3)).f1)) = false := by simpa using c7))
          (try (have c7b2 : (t450 == ((rd_T22 y439 (ji3)).f1)) = false := by simpa using c7))
          (try (have c7b3 : ¬ (t450 = ((rd_T22 y439 (ji3)).f1)) := by simpa using c7))
          clear c7
          exact absurd H (by simp)
      · rw [if_neg c5] at H
        exact absurd H (by simp)
    · rw [if_neg c4] at H
      exact absurd H (by simp)

/-- THE ONE PURE STATEMENT of entaillaw2_TuplForms: yours. -/
def entaillaw2_TuplForms.Pure : Prop := ∀ (a0 : Int), (Lit.int .i64 a0).wf = true → ∃ k, entaillaw2_TuplForms.f k a0 = some true
theorem entaillaw2_TuplForms.walk (P : entaillaw2_TuplForms.Pure) (a0 : Int) (w : World) (w0 : (Lit.int .i64 a0).wf = true) :
    Calls Try.prog 3 #[.int .i64 a0] w fun e w' => e = .returned (.bool true) ∧ Below w.heap.size w w' := by
  obtain ⟨k, h⟩ := P a0 w0
  refine (entaillaw2_TuplForms.calls k a0 true w h).mono ?_
  rintro e w' ⟨rfl, hd⟩
  exact ⟨rfl, hd⟩

end Go.Proofs.Ytjmlloiolppoiaa.P
