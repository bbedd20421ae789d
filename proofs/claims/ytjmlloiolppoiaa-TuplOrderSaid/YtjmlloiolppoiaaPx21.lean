/- Functions of the given program as plain Lean functions, and their contracts: written by a program of the prover. -/
import Derived.Test.YtjmlloiolppoiaaPx0
import Derived.Test.YtjmlloiolppoiaaPx2
namespace Go.Proofs.Ytjmlloiolppoiaa.P
open Go.RowKit Go.Proofs.YtjmlloiolppoiaaW.PrintWords Go.Proofs.YtjmlloiolppoiaaW.PrintLast Go.Proofs.YtjmlloiolppoiaaW.PrintMore
attribute [local go_sem] max2_int min2_int max_two min_two max_three min_three max_four min_four   -- for this text's walks alone
set_option linter.unusedVariables false
set_option linter.unusedSimpArgs false

/-! ### entaillaw2_Tame: function 23 -/
def entaillaw2_Tame.f (a0 : Int) : Option (ByteArray × ByteArray × ByteArray × ByteArray × ByteArray × ByteArray) := (some (([(⟨#[97]⟩ : ByteArray), (⟨#[98]⟩ : ByteArray)] : List ByteArray) : List ByteArray)).bind fun y318 => (if 0 ≤ (Go.bits .and .i64 a0 1) then (if (Go.bits .and .i64 a0 1) < (y318.length : Int) then ((entaillaw1_Nm.f (a0 / 2)).bind fun t322 => ((some (([(⟨#[114]⟩ : ByteArray), (⟨#[115]⟩ : ByteArray)] : List ByteArray) : List ByteArray)).bind fun y323 => (if 0 ≤ (Go.bits .and .i64 (a0 / 16) 1) then (if (Go.bits .and .i64 (a0 / 16) 1) < (y323.length : Int) then ((some (([(⟨#[117]⟩ : ByteArray), (⟨#[97]⟩ : ByteArray), (⟨#[98]⟩ : ByteArray)] : List ByteArray) : List ByteArray)).bind fun y327 => (if 0 ≤ (Int.tmod (Go.bits .and .i64 (a0 / 32) 255) 3) then (if (Int.tmod (Go.bits .and .i64 (a0 / 32) 255) 3) < (y327.length : Int) then ((entaillaw1_Nm.f (a0 / 8192)).bind fun t331 => (if (Go.bits .and .i64 (a0 / 65536) 3) = 0 then ((some (([(⟨#[114]⟩ : ByteArray), (⟨#[115]⟩ : ByteArray)] : List ByteArray) : List ByteArray)).bind fun y333 => (if 0 ≤ (Go.bits .and .i64 (a0 / 262144) 1) then (if (Go.bits .and .i64 (a0 / 262144) 1) < (y333.length : Int) then (some (rdOf ByteArray.empty y318 (Go.bits .and .i64 a0 1), t322, rdOf ByteArray.empty y323 (Go.bits .and .i64 (a0 / 16) 1), rdOf ByteArray.empty y327 (Int.tmod (Go.bits .and .i64 (a0 / 32) 255) 3), t331, rdOf ByteArray.empty y333 (Go.bits .and .i64 (a0 / 262144) 1))) else (none)) else (none))) else (some (rdOf ByteArray.empty y318 (Go.bits .and .i64 a0 1), t322, rdOf ByteArray.empty y323 (Go.bits .and .i64 (a0 / 16) 1), rdOf ByteArray.empty y327 (Int.tmod (Go.bits .and .i64 (a0 / 32) 255) 3), t331, (⟨#[]⟩ : ByteArray))))) else (none)) else (none))) else (none)) else (none)))) else (none)) else (none))
def entaillaw2_Tame.T1 : Bool × List (List Nat × List Nat) := (true, [([], []), ([], []), ([1], [1]), ([0, 2], [0, 2]), ([3], [3]), ([], []), ([5], [5]), ([6], [6]), ([4, 7], [4, 7]), ([], []), ([], []), ([10], [10]), ([11], [11]), ([9, 12], [9, 12]), ([13], [13]), ([], []), ([], []), ([16], [16]), ([17], [17]), ([18], [18]), ([15, 19], [15, 19]), ([20], [20]), ([], []), ([22], [22]), ([23, 7], [23]), ([21, 24], [21, 24]), ([8, 14, 25], [8, 14, 25]), ([], []), ([27, 26, 24, 0, 1, 2, 3, 4, 5, 6, 7, 8, 9, 10, 11, 12, 13, 14, 15, 16, 17, 18, 19, 20, 21, 22, 23, 24, 25, 26, 27], [26, 27])])
def entaillaw2_Tame.B1 : List Nat := [0, 0, 2, 7, 15, 0, 32, 96, 255, 0, 0, 1024, 3072, 7680, 15872, 0, 0, 65536, 196608, 458752, 1015808, 2064384, 0, 4194304, 12583136, 33521888, 67108863, 0, 268435455]
theorem entaillaw2_Tame.tab1 : rtab .any (opsOf Try.f23 1) = entaillaw2_Tame.T1 := by kernel_rfl
theorem entaillaw2_Tame.bits1 : waitsOk entaillaw2_Tame.T1.2 entaillaw2_Tame.B1 = true := by kernel_rfl
set_option maxHeartbeats 8000000 in
set_option maxRecDepth 100000 in
theorem entaillaw2_Tame.calls (a0 : Int) (r1 : ByteArray) (r2 : ByteArray) (r3 : ByteArray) (r4 : ByteArray) (r5 : ByteArray) (r6 : ByteArray) (w : World) (h : entaillaw2_Tame.f a0 = some (r1, r2, r3, r4, r5, r6)) :
    Calls Try.prog 23 #[.int .i64 a0] w fun e w' => e = .returned (.agg #[.string r1, .string r2, .string r3, .string r4, .string r5, .string r6]) ∧ Below w.heap.size w w' := by
  have hu29 := Try.underlying29
  have hu25 := Try.underlying25
  have hu27 := Try.underlying27
  have HB := Aside0.mk (Below.refl w.heap.size w)
  have H : ((some (([(⟨#[97]⟩ : ByteArray), (⟨#[98]⟩ : ByteArray)] : List ByteArray) : List ByteArray)).bind fun y318 => (if 0 ≤ (Go.bits .and .i64 a0 1) then (if (Go.bits .and .i64 a0 1) < (y318.length : Int) then ((entaillaw1_Nm.f (a0 / 2)).bind fun t322 => ((some (([(⟨#[114]⟩ : ByteArray), (⟨#[115]⟩ : ByteArray)] : List ByteArray) : List ByteArray)).bind fun y323 => (if 0 ≤ (Go.bits .and .i64 (a0 / 16) 1) then (if (Go.bits .and .i64 (a0 / 16) 1) < (y323.length : Int) then ((some (([(⟨#[117]⟩ : ByteArray), (⟨#[97]⟩ : ByteArray), (⟨#[98]⟩ : ByteArray)] : List ByteArray) : List ByteArray)).bind fun y327 => (if 0 ≤ (Int.tmod (Go.bits .and .i64 (a0 / 32) 255) 3) then (if (Int.tmod (Go.bits .and .i64 (a0 / 32) 255) 3) < (y327.length : Int) then ((entaillaw1_Nm.f (a0 / 8192)).bind fun t331 => (if (Go.bits .and .i64 (a0 / 65536) 3) = 0 then ((some (([(⟨#[114]⟩ : ByteArray), (⟨#[115]⟩ : ByteArray)] : List ByteArray) : List ByteArray)).bind fun y333 => (if 0 ≤ (Go.bits .and .i64 (a0 / 262144) 1) then (if (Go.bits .and .i64 (a0 / 262144) 1) < (y333.length : Int) then (some (rdOf ByteArray.empty y318 (Go.bits .and .i64 a0 1), t322, rdOf ByteArray.empty y323 (Go.bits .and .i64 (a0 / 16) 1), rdOf ByteArray.empty y327 (Int.tmod (Go.bits .and .i64 (a0 / 32) 255) 3), t331, rdOf ByteArray.empty y333 (Go.bits .and .i64 (a0 / 262144) 1))) else (none)) else (none))) else (some (rdOf ByteArray.empty y318 (Go.bits .and .i64 a0 1), t322, rdOf ByteArray.empty y323 (Go.bits .and .i64 (a0 / 16) 1), rdOf ByteArray.empty y327 (Int.tmod (Go.bits .and .i64 (a0 / 32) 255) 3), t331, (⟨#[]⟩ : ByteArray))))) else (none)) else (none))) else (none)) else (none)))) else (none)) else (none))) = some (r1, r2, r3, r4, r5, r6) := h
  clear h
  obtain ⟨y318, hy318⟩ : ∃ y_ : List ByteArray, y_ = (([(⟨#[97]⟩ : ByteArray), (⟨#[98]⟩ : ByteArray)] : List ByteArray)) := ⟨_, rfl⟩
  replace H : (if 0 ≤ (Go.bits .and .i64 a0 1) then (if (Go.bits .and .i64 a0 1) < (y318.length : Int) then ((entaillaw1_Nm.f (a0 / 2)).bind fun t322 => ((some (([(⟨#[114]⟩ : ByteArray), (⟨#[115]⟩ : ByteArray)] : List ByteArray) : List ByteArray)).bind fun y323 => (if 0 ≤ (Go.bits .and .i64 (a0 / 16) 1) then (if (Go.bits .and .i64 (a0 / 16) 1) < (y323.length : Int) then ((some (([(⟨#[117]⟩ : ByteArray), (⟨#[97]⟩ : ByteArray), (⟨#[98]⟩ : ByteArray)] : List ByteArray) : List ByteArray)).bind fun y327 => (if 0 ≤ (Int.tmod (Go.bits .and .i64 (a0 / 32) 255) 3) then (if (Int.tmod (Go.bits .and .i64 (a0 / 32) 255) 3) < (y327.length : Int) then ((entaillaw1_Nm.f (a0 / 8192)).bind fun t331 => (if (Go.bits .and .i64 (a0 / 65536) 3) = 0 then ((some (([(⟨#[114]⟩ : ByteArray), (⟨#[115]⟩ : ByteArray)] : List ByteArray) : List ByteArray)).bind fun y333 => (if 0 ≤ (Go.bits .and .i64 (a0 / 262144) 1) then (if (Go.bits .and .i64 (a0 / 262144) 1) < (y333.length : Int) then (some (rdOf ByteArray.empty y318 (Go.bits .and .i64 a0 1), t322, rdOf ByteArray.empty y323 (Go.bits .and .i64 (a0 / 16) 1), rdOf ByteArray.empty y327 (Int.tmod (Go.bits .and .i64 (a0 / 32) 255) 3), t331, rdOf ByteArray.empty y333 (Go.bits .and .i64 (a0 / 262144) 1))) else (none)) else (none))) else (some (rdOf ByteArray.empty y318 (Go.bits .and .i64 a0 1), t322, rdOf ByteArray.empty y323 (Go.bits .and .i64 (a0 / 16) 1), rdOf ByteArray.empty y327 (Int.tmod (Go.bits .and .i64 (a0 / 32) 255) 3), t331, (⟨#[]⟩ : ByteArray))))) else (none)) else (none))) else (none)) else (none)))) else (none)) else (none)) = some (r1, r2, r3, r4, r5, r6) := by first | (rw [hy318]; with_reducible exact H) | (have H2_ := (Option.bind_some _ _).symm.trans H; rw [hy318]; with_reducible exact H2_) | (have H2_ := (Option.bind_some _ _).symm.trans H; with_reducible exact H2_) | with_reducible exact H | (rw [hy318]; exact H) | exact H
  have Ny318 := Aside0.mk hy318
  clear hy318
  by_cases c2 : 0 ≤ (Go.bits .and .i64 a0 1)
  · rw [if_pos c2] at H
    have c2b0 : decide (0 ≤ (Go.bits .and .i64 a0 1)) = true := decide_eq_true c2
    clear c2
    by_cases c3 : (Go.bits .and .i64 a0 1) < (y318.length : Int)
    · rw [if_pos c3] at H
      have c3b0 : decide ((Go.bits .and .i64 a0 1) < (y318.length : Int)) = true := decide_eq_true c3
      clear c3
      replace H := Option.bind_eq_some_iff.mp H
      obtain ⟨t322, A40, H⟩ := H
      replace H : ((some (([(⟨#[114]⟩ : ByteArray), (⟨#[115]⟩ : ByteArray)] : List ByteArray) : List ByteArray)).bind fun y323 => (if 0 ≤ (Go.bits .and .i64 (a0 / 16) 1) then (if (Go.bits .and .i64 (a0 / 16) 1) < (y323.length : Int) then ((some (([(⟨#[117]⟩ : ByteArray), (⟨#[97]⟩ : ByteArray), (⟨#[98]⟩ : ByteArray)] : List ByteArray) : List ByteArray)).bind fun y327 => (if 0 ≤ (Int.tmod (Go.bits .and .i64 (a0 / 32) 255) 3) then (if (Int.tmod (Go.bits .and .i64 (a0 / 32) 255) 3) < (y327.length : Int) then ((entaillaw1_Nm.f (a0 / 8192)).bind fun t331 => (if (Go.bits .and .i64 (a0 / 65536) 3) = 0 then ((some (([(⟨#[114]⟩ : ByteArray), (⟨#[115]⟩ : ByteArray)] : List ByteArray) : List ByteArray)).bind fun y333 => (if 0 ≤ (Go.bits .and .i64 (a0 / 262144) 1) then (if (Go.bits .and .i64 (a0 / 262144) 1) < (y333.length : Int) then (some (rdOf ByteArray.empty y318 (Go.bits .and .i64 a0 1), t322, rdOf ByteArray.empty y323 (Go.bits .and .i64 (a0 / 16) 1), rdOf ByteArray.empty y327 (Int.tmod (Go.bits .and .i64 (a0 / 32) 255) 3), t331, rdOf ByteArray.empty y333 (Go.bits .and .i64 (a0 / 262144) 1))) else (none)) else (none))) else (some (rdOf ByteArray.empty y318 (Go.bits .and .i64 a0 1), t322, rdOf ByteArray.empty y323 (Go.bits .and .i64 (a0 / 16) 1), rdOf ByteArray.empty y327 (Int.tmod (Go.bits .and .i64 (a0 / 32) 255) 3), t331, (⟨#[]⟩ : ByteArray))))) else (none)) else (none))) else (none)) else (none))) = some (r1, r2, r3, r4, r5, r6) := H
      have A4 := Aside0.mk A40
      clear A40
      obtain ⟨y323, hy323⟩ : ∃ y_ : List ByteArray, y_ = (([(⟨#[114]⟩ : ByteArray), (⟨#[115]⟩ : ByteArray)] : List ByteArray)) := ⟨_, rfl⟩
      replace H : (if 0 ≤ (Go.bits .and .i64 (a0 / 16) 1) then (if (Go.bits .and .i64 (a0 / 16) 1) < (y323.length : Int) then ((some (([(⟨#[117]⟩ : ByteArray), (⟨#[97]⟩ : ByteArray), (⟨#[98]⟩ : ByteArray)] : List ByteArray) : List ByteArray)).bind fun y327 => (if 0 ≤ (Int.tmod (Go.bits .and .i64 (a0 / 32) 255) 3) then (if (Int.tmod (Go.bits .and .i64 (a0 / 32) 255) 3) < (y327.length : Int) then ((entaillaw1_Nm.f (a0 / 8192)).bind fun t331 => (if (Go.bits .and .i64 (a0 / 65536) 3) = 0 then ((some (([(⟨#[114]⟩ : ByteArray), (⟨#[115]⟩ : ByteArray)] : List ByteArray) : List ByteArray)).bind fun y333 => (if 0 ≤ (Go.bits .and .i64 (a0 / 262144) 1) then (if (Go.bits .and .i64 (a0 / 262144) 1) < (y333.length : Int) then (some (rdOf ByteArray.empty y318 (Go.bits .and .i64 a0 1), t322, rdOf ByteArray.empty y323 (Go.bits .and .i64 (a0 / 16) 1), rdOf ByteArray.empty y327 (Int.tmod (Go.bits .and .i64 (a0 / 32) 255) 3), t331, rdOf ByteArray.empty y333 (Go.bits .and .i64 (a0 / 262144) 1))) else (none)) else (none))) else (some (rdOf ByteArray.empty y318 (Go.bits .and .i64 a0 1), t322, rdOf ByteArray.empty y323 (Go.bits .and .i64 (a0 / 16) 1), rdOf ByteArray.empty y327 (Int.tmod (Go.bits .and .i64 (a0 / 32) 255) 3), t331, (⟨#[]⟩ : ByteArray))))) else (none)) else (none))) else (none)) else (none)) = some (r1, r2, r3, r4, r5, r6) := by first | (rw [hy323]; with_reducible exact H) | (have H2_ := (Option.bind_some _ _).symm.trans H; rw [hy323]; with_reducible exact H2_) | (have H2_ := (Option.bind_some _ _).symm.trans H; with_reducible exact H2_) | with_reducible exact H | (rw [hy323]; exact H) | exact H
      have Ny323 := Aside0.mk hy323
      clear hy323
      obtain ⟨ji5, hji5⟩ : ∃ j_ : Int, (Go.bits .and .i64 (a0 / 16) 1) = j_ := ⟨_, rfl⟩
      replace H : (if 0 ≤ (ji5) then (if (ji5) < (y323.length : Int) then ((some (([(⟨#[117]⟩ : ByteArray), (⟨#[97]⟩ : ByteArray), (⟨#[98]⟩ : ByteArray)] : List ByteArray) : List ByteArray)).bind fun y327 => (if 0 ≤ (Int.tmod (Go.bits .and .i64 (a0 / 32) 255) 3) then (if (Int.tmod (Go.bits .and .i64 (a0 / 32) 255) 3) < (y327.length : Int) then ((entaillaw1_Nm.f (a0 / 8192)).bind fun t331 => (if (Go.bits .and .i64 (a0 / 65536) 3) = 0 then ((some (([(⟨#[114]⟩ : ByteArray), (⟨#[115]⟩ : ByteArray)] : List ByteArray) : List ByteArray)).bind fun y333 => (if 0 ≤ (Go.bits .and .i64 (a0 / 262144) 1) then (if (Go.bits .and .i64 (a0 / 262144) 1) < (y333.length : Int) then (some (rdOf ByteArray.empty y318 (Go.bits .and .i64 a0 1), t322, rdOf ByteArray.empty y323 (ji5), rdOf ByteArray.empty y327 (Int.tmod (Go.bits .and .i64 (a0 / 32) 255) 3), t331, rdOf ByteArray.empty y333 (Go.bits .and .i64 (a0 / 262144) 1))) else (none)) else (none))) else (some (rdOf ByteArray.empty y318 (Go.bits .and .i64 a0 1), t322, rdOf ByteArray.empty y323 (ji5), rdOf ByteArray.empty y327 (Int.tmod (Go.bits .and .i64 (a0 / 32) 255) 3), t331, (⟨#[]⟩ : ByteArray))))) else (none)) else (none))) else (none)) else (none)) = some (r1, r2, r3, r4, r5, r6) := by first | (rw [hji5] at H; exact H) | (simp only [hji5] at H ⊢; exact H)
      (try rw [hji5] at A4)
      by_cases c6 : 0 ≤ (ji5)
      · rw [if_pos c6] at H
        have c6b0 : decide (0 ≤ (ji5)) = true := decide_eq_true c6
        clear c6
        by_cases c7 : (ji5) < (y323.length : Int)
        · rw [if_pos c7] at H
          have c7b0 : decide ((ji5) < (y323.length : Int)) = true := decide_eq_true c7
          clear c7
          obtain ⟨y327, hy327⟩ : ∃ y_ : List ByteArray, y_ = (([(⟨#[117]⟩ : ByteArray), (⟨#[97]⟩ : ByteArray), (⟨#[98]⟩ : ByteArray)] : List ByteArray)) := ⟨_, rfl⟩
          replace H : (if 0 ≤ (Int.tmod (Go.bits .and .i64 (a0 / 32) 255) 3) then (if (Int.tmod (Go.bits .and .i64 (a0 / 32) 255) 3) < (y327.length : Int) then ((entaillaw1_Nm.f (a0 / 8192)).bind fun t331 => (if (Go.bits .and .i64 (a0 / 65536) 3) = 0 then ((some (([(⟨#[114]⟩ : ByteArray), (⟨#[115]⟩ : ByteArray)] : List ByteArray) : List ByteArray)).bind fun y333 => (if 0 ≤ (Go.bits .and .i64 (a0 / 262144) 1) then (if (Go.bits .and .i64 (a0 / 262144) 1) < (y333.length : Int) then (some (rdOf ByteArray.empty y318 (Go.bits .and .i64 a0 1), t322, rdOf ByteArray.empty y323 (ji5), rdOf ByteArray.empty y327 (Int.tmod (Go.bits .and .i64 (a0 / 32) 255) 3), t331, rdOf ByteArray.empty y333 (Go.bits .and .i64 (a0 / 262144) 1))) else (none)) else (none))) else (some (rdOf ByteArray.empty y318 (Go.bits .and .i64 a0 1), t322, rdOf ByteArray.empty y323 (ji5), rdOf ByteArray.empty y327 (Int.tmod (Go.bits .and .i64 (a0 / 32) 255) 3), t331, (⟨#[]⟩ : ByteArray))))) else (none)) else (none)) = some (r1, r2, r3, r4, r5, r6) := by first | (rw [hy327]; with_reducible exact H) | (have H2_ := (Option.bind_some _ _).symm.trans H; rw [hy327]; with_reducible exact H2_) | (have H2_ := (Option.bind_some _ _).symm.trans H; with_reducible exact H2_) | with_reducible exact H | (rw [hy327]; exact H) | exact H
          have Ny327 := Aside0.mk hy327
          clear hy327
          obtain ⟨ji8, hji8⟩ : ∃ j_ : Int, (Int.tmod (Go.bits .and .i64 (a0 / 32) 255) 3) = j_ := ⟨_, rfl⟩
          replace H : (if 0 ≤ (ji8) then (if (ji8) < (y327.length : Int) then ((entaillaw1_Nm.f (a0 / 8192)).bind fun t331 => (if (Go.bits .and .i64 (a0 / 65536) 3) = 0 then ((some (([(⟨#[114]⟩ : ByteArray), (⟨#[115]⟩ : ByteArray)] : List ByteArray) : List ByteArray)).bind fun y333 => (if 0 ≤ (Go.bits .and .i64 (a0 / 262144) 1) then (if (Go.bits .and .i64 (a0 / 262144) 1) < (y333.length : Int) then (some (rdOf ByteArray.empty y318 (Go.bits .and .i64 a0 1), t322, rdOf ByteArray.empty y323 (ji5), rdOf ByteArray.empty y327 (ji8), t331, rdOf ByteArray.empty y333 (Go.bits .and .i64 (a0 / 262144) 1))) else (none)) else (none))) else (some (rdOf ByteArray.empty y318 (Go.bits .and .i64 a0 1), t322, rdOf ByteArray.empty y323 (ji5), rdOf ByteArray.empty y327 (ji8), t331, (⟨#[]⟩ : ByteArray))))) else (none)) else (none)) = some (r1, r2, r3, r4, r5, r6) := by first | (rw [hji8] at H; exact H) | (simp only [hji8] at H ⊢; exact H)
          (try rw [hji8] at A4)
          by_cases c9 : 0 ≤ (ji8)
          · rw [if_pos c9] at H
            have c9b0 : decide (0 ≤ (ji8)) = true := decide_eq_true c9
            clear c9
            by_cases c10 : (ji8) < (y327.length : Int)
            · rw [if_pos c10] at H
              have c10b0 : decide ((ji8) < (y327.length : Int)) = true := decide_eq_true c10
              clear c10
              replace H := Option.bind_eq_some_iff.mp H
              obtain ⟨t331, A110, H⟩ := H
              replace H : (if (Go.bits .and .i64 (a0 / 65536) 3) = 0 then ((some (([(⟨#[114]⟩ : ByteArray), (⟨#[115]⟩ : ByteArray)] : List ByteArray) : List ByteArray)).bind fun y333 => (if 0 ≤ (Go.bits .and .i64 (a0 / 262144) 1) then (if (Go.bits .and .i64 (a0 / 262144) 1) < (y333.length : Int) then (some (rdOf ByteArray.empty y318 (Go.bits .and .i64 a0 1), t322, rdOf ByteArray.empty y323 (ji5), rdOf ByteArray.empty y327 (ji8), t331, rdOf ByteArray.empty y333 (Go.bits .and .i64 (a0 / 262144) 1))) else (none)) else (none))) else (some (rdOf ByteArray.empty y318 (Go.bits .and .i64 a0 1), t322, rdOf ByteArray.empty y323 (ji5), rdOf ByteArray.empty y327 (ji8), t331, (⟨#[]⟩ : ByteArray)))) = some (r1, r2, r3, r4, r5, r6) := H
              have A11 := Aside0.mk A110
              clear A110
              by_cases c12 : (Go.bits .and .i64 (a0 / 65536) 3) = 0
              · rw [if_pos c12] at H
                have c12b0 : ((Go.bits .and .i64 (a0 / 65536) 3) == 0) = true := beq_iff_eq.mpr c12
                have c12b1 : ((Go.bits .and .i64 (a0 / 65536) 3) != 0) = false := bne_eq_false_iff_eq.mpr c12
                clear c12
                obtain ⟨y333, hy333⟩ : ∃ y_ : List ByteArray, y_ = (([(⟨#[114]⟩ : ByteArray), (⟨#[115]⟩ : ByteArray)] : List ByteArray)) := ⟨_, rfl⟩
                replace H : (if 0 ≤ (Go.bits .and .i64 (a0 / 262144) 1) then (if (Go.bits .and .i64 (a0 / 262144) 1) < (y333.length : Int) then (some (rdOf ByteArray.empty y318 (Go.bits .and .i64 a0 1), t322, rdOf ByteArray.empty y323 (ji5), rdOf ByteArray.empty y327 (ji8), t331, rdOf ByteArray.empty y333 (Go.bits .and .i64 (a0 / 262144) 1))) else (none)) else (none)) = some (r1, r2, r3, r4, r5, r6) := by first | (rw [hy333]; with_reducible exact H) | (have H2_ := (Option.bind_some _ _).symm.trans H; rw [hy333]; with_reducible exact H2_) | (have H2_ := (Option.bind_some _ _).symm.trans H; with_reducible exact H2_) | with_reducible exact H | (rw [hy333]; exact H) | exact H
                have Ny333 := Aside0.mk hy333
                clear hy333
                obtain ⟨ji13, hji13⟩ : ∃ j_ : Int, (Go.bits .and .i64 (a0 / 262144) 1) = j_ := ⟨_, rfl⟩
                replace H : (if 0 ≤ (ji13) then (if (ji13) < (y333.length : Int) then (some (rdOf ByteArray.empty y318 (Go.bits .and .i64 a0 1), t322, rdOf ByteArray.empty y323 (ji5), rdOf ByteArray.empty y327 (ji8), t331, rdOf ByteArray.empty y333 (ji13))) else (none)) else (none)) = some (r1, r2, r3, r4, r5, r6) := by first | (rw [hji13] at H; exact H) | (simp only [hji13] at H ⊢; exact H)
                (try rw [hji13] at A4)
                (try rw [hji13] at A11)
                by_cases c14 : 0 ≤ (ji13)
                · rw [if_pos c14] at H
                  have c14b0 : decide (0 ≤ (ji13)) = true := decide_eq_true c14
                  clear c14
                  by_cases c15 : (ji13) < (y333.length : Int)
                  · rw [if_pos c15] at H
                    have c15b0 : decide ((ji13) < (y333.length : Int)) = true := decide_eq_true c15
                    clear c15
                    simp only [Option.some.injEq, Prod.mk.injEq] at H
                    obtain ⟨rfl, rfl, rfl, rfl, rfl, rfl⟩ := H
                    go_enter Try.func23, Try.ntmps23
                    try go_wp2_with (first | ((with_reducible refine gate_dst (N := 2) rfl ?_); refine box_event ?hg (N := 2) ?hd (cs := #[.string (⟨#[]⟩ : ByteArray), .string (⟨#[]⟩ : ByteArray), .string (⟨#[]⟩ : ByteArray), .string (⟨#[]⟩ : ByteArray), .string (⟨#[]⟩ : ByteArray), .string (⟨#[]⟩ : ByteArray)]) (t := 29) ?hr ?_; (case hd => rfl); (case hg => rfl); (case hr => first | (go_simp; done) | (go_simp; rfl)); intro gb317 hg w16 hbox hb; have n0_ := Aside0.mk (below_step (by repeat (first | (with_reducible first | exact HB.out | apply below_alloc | apply pw_below_drewN | apply below_drew1) | exact HB.out)) hb); have n1_ := Aside0.mk (hbox); have n2_ := Aside0.mk ((by rw [hg]; exact (below_size (by repeat (first | (with_reducible first | exact HB.out | apply below_alloc | apply pw_below_drewN | apply below_drew1) | exact HB.out))) : w.heap.size ≤ gb317)); have n3_ := Aside0.mk ((by rw [hg]; exact (below_size (by repeat (first | (with_reducible first | exact HB.out | apply below_alloc | apply pw_below_drewN | apply below_drew1) | exact HB.out))) : w.heap.size ≤ gb317)); clear HB; have HB := n0_; have BK317 := n1_; have GW317 := n2_; have GE317 := n3_; clear n0_ n1_ n2_ n3_; clear hb hbox hg))
                    have pi321 : (0 ≤ ((Go.bits .and .i64 a0 1) : Int)) = True := eq_true (of_decide_eq_true (by first | (with_reducible assumption) | assumption))
                    have qi321 : ((Go.bits .and .i64 a0 1) < (y318.length : Int)) = True := eq_true (of_decide_eq_true (by first | (with_reducible assumption) | assumption))
                    have pi326 : (0 ≤ ((ji5) : Int)) = True := eq_true (of_decide_eq_true (by first | (with_reducible assumption) | assumption))
                    have qi326 : ((ji5) < (y323.length : Int)) = True := eq_true (of_decide_eq_true (by first | (with_reducible assumption) | assumption))
                    have pi330 : (0 ≤ ((ji8) : Int)) = True := eq_true (of_decide_eq_true (by first | (with_reducible assumption) | assumption))
                    have qi330 : ((ji8) < (y327.length : Int)) = True := eq_true (of_decide_eq_true (by first | (with_reducible assumption) | assumption))
                    have n0_ := Aside0.mk (blk_drew BK317.out)
                    have n1_ := Aside0.mk (below_drew1 HB.out)
                    clear BK317
                    clear HB
                    have BK317 := n0_
                    have HB := n1_
                    clear n0_ n1_
                    refine start_ (n := 29) (S := fun w' => True) (ds := []) #[false, false, false, false, false, false, false, false, false, false, false, false, false, false, false, false, false, false, false, false, false, false, false, false, false, false, false, false, false] (by kernel_rfl) rfl rfl trivial (fun hHeld => ?_); refine with_tabW entaillaw2_Tame.tab1 entaillaw2_Tame.bits1 (fun HT_ HW_ => ?_)
                    generalize w16.drew = w17 at BK317 HB hHeld ⊢
                    refine pure_ (i := 1) (N := some 5) (v := ?_) (a' := ?_) #[false, true, false, false, false, false, false, false, false, false, false, false, false, false, false, false, false, false, false, false, false, false, false, false, false, false, false, false, false] rfl rfl (any_of HT_.out (by kernel_rfl)) (fun _ _ _ h => h) (Or.inl ⟨by rfl, ?_⟩) ?_ ?_
                    rotate_left
                    · intro w'
                      go_simp
                      with_reducible rfl
                    rotate_left
                    · simp only [Act.put, List.setIfInBounds_toArray, List.set_cons_zero, List.set_cons_succ, i64_w, i32_w]
                      rfl
                    refine pure_ (i := 5) (N := some 9) (v := ?_) (a' := ?_) #[false, true, false, false, false, true, false, false, false, false, false, false, false, false, false, false, false, false, false, false, false, false, false, false, false, false, false, false, false] rfl rfl (any_of HT_.out (by kernel_rfl)) (fun _ _ _ h => h) (Or.inl ⟨by rfl, ?_⟩) ?_ ?_
                    rotate_left
                    · intro w'
                      go_simp
                      with_reducible rfl
                    rotate_left
                    · simp only [Act.put, List.setIfInBounds_toArray, List.set_cons_zero, List.set_cons_succ, i64_w, i32_w]
                      rfl
                    refine pure_ (i := 10) (N := some 14) (v := ?_) (a' := ?_) #[false, true, false, false, false, true, false, false, false, false, true, false, false, false, false, false, false, false, false, false, false, false, false, false, false, false, false, false, false] rfl rfl (any_of HT_.out (by kernel_rfl)) (fun _ _ _ h => h) (Or.inl ⟨by rfl, ?_⟩) ?_ ?_
                    rotate_left
                    · intro w'
                      go_simp
                      with_reducible rfl
                    rotate_left
                    · simp only [Act.put, List.setIfInBounds_toArray, List.set_cons_zero, List.set_cons_succ, i64_w, i32_w]
                      rfl
                    refine pure_ (i := 16) (N := some 20) (v := ?_) (a' := ?_) #[false, true, false, false, false, true, false, false, false, false, true, false, false, false, false, false, true, false, false, false, false, false, false, false, false, false, false, false, false] rfl rfl (any_of HT_.out (by kernel_rfl)) (fun _ _ _ h => h) (Or.inl ⟨by rfl, ?_⟩) ?_ ?_
                    rotate_left
                    · intro w'
                      go_simp
                      with_reducible rfl
                    rotate_left
                    · simp only [Act.put, List.setIfInBounds_toArray, List.set_cons_zero, List.set_cons_succ, i64_w, i32_w]
                      rfl
                    refine pure_ (i := 22) (N := some 26) (v := ?_) (a' := ?_) #[false, true, false, false, false, true, false, false, false, false, true, false, false, false, false, false, true, false, false, false, false, false, true, false, false, false, false, false, false] rfl rfl (any_of HT_.out (by kernel_rfl)) (fun _ _ _ h => h) (Or.inl ⟨by rfl, ?_⟩) ?_ ?_
                    rotate_left
                    · intro w'
                      go_simp
                      with_reducible rfl
                    rotate_left
                    · simp only [Act.put, List.setIfInBounds_toArray, List.set_cons_zero, List.set_cons_succ, i64_w, i32_w]
                      rfl
                    refine inv_at [0, 2, 3, 4, 6, 7, 8, 9, 11, 12, 13, 14, 15, 17, 18, 19, 20, 21, 23, 24, 25, 26, 27, 28] (fun a0_ b a w' => ∃ (v319 : Value) (adz_v319 : Addr) (v324 : Value) (adz_v324 : Addr) (v328 : Value) (adz_v328 : Addr) (gb332 : Nat) (m3_ : Value) (m13_ : Value) (m20_ : Value) (m27_ : Value), a = putSel a0_ b [(0, 4, v319), (2, 6, .int .i64 (Go.bits .and .i64 a0 1)), (3, 7, m3_), (4, 8, .string (rdOf ByteArray.empty y318 (Go.bits .and .i64 a0 1))), (6, 10, .int .i64 (a0 / 2)), (7, 11, .string t322), (8, 12, .agg #[.string (rdOf ByteArray.empty y318 (Go.bits .and .i64 a0 1)), .string t322]), (9, 13, v324), (11, 15, .int .i64 (a0 / 16)), (12, 16, .int .i64 ji5), (13, 17, m13_), (14, 18, .string (rdOf ByteArray.empty y323 (ji5))), (15, 19, v328), (17, 21, .int .i64 (a0 / 32)), (18, 22, .int .i64 (Go.bits .and .i64 (a0 / 32) 255)), (19, 23, .int .i64 ji8), (20, 24, m20_), (21, 25, .string (rdOf ByteArray.empty y327 (ji8))), (23, 27, .int .i64 (a0 / 8192)), (24, 28, .string t331), (25, 29, .agg #[.string (rdOf ByteArray.empty y327 (ji8)), .string t331, .string (⟨#[]⟩ : ByteArray)]), (26, 30, .agg #[.string (rdOf ByteArray.empty y318 (Go.bits .and .i64 a0 1)), .string t322, .string (rdOf ByteArray.empty y323 (ji5)), .string (rdOf ByteArray.empty y327 (ji8)), .string t331, .string (⟨#[]⟩ : ByteArray)]), (27, 3, m27_)] ∧ (w'.heap[gb317]? = some (.cells #[.string (⟨#[]⟩ : ByteArray), .string (⟨#[]⟩ : ByteArray), .string (⟨#[]⟩ : ByteArray), .string (⟨#[]⟩ : ByteArray), .string (⟨#[]⟩ : ByteArray), .string (⟨#[]⟩ : ByteArray)] 29 (0, 0))) ∧ (Below w.heap.size w w') ∧ (b 0 = true → Kd.R Kd.string 9 w' w.heap.size (fun _ => True) v319 y318) ∧ (b 0 = true → ∃ c_, (v319 : Value) = .slice (some adz_v319) y318.length c_) ∧ (b 9 = true → Kd.R Kd.string 9 w' w.heap.size (fun _ => True) v324 y323) ∧ (b 9 = true → ∃ c_, (v324 : Value) = .slice (some adz_v324) y323.length c_) ∧ (b 15 = true → Kd.R Kd.string 9 w' w.heap.size (fun _ => True) v328 y327) ∧ (b 15 = true → ∃ c_, (v328 : Value) = .slice (some adz_v328) y327.length c_) ∧ (b 27 = true → b 28 = false → w'.heap[gb332]? = some (.cells #[.string (⟨#[]⟩ : ByteArray), .string (⟨#[]⟩ : ByteArray), .string (⟨#[]⟩ : ByteArray), .string (⟨#[]⟩ : ByteArray), .string (⟨#[]⟩ : ByteArray), .string (⟨#[]⟩ : ByteArray)] 29 (0, 0))) ∧ (b 27 = true → w.heap.size ≤ gb332) ∧ (b 27 = true → w.heap.size ≤ gb332) ∧ (b 27 = true → gb317 ≠ gb332) ∧ (b 27 = true → gb332 ≠ gb317) ∧ (b 28 = true → w'.heap[gb332]? = some (.cells #[.string (rdOf ByteArray.empty y318 (Go.bits .and .i64 a0 1)), .string t322, .string (rdOf ByteArray.empty y323 (ji5)), .string (rdOf ByteArray.empty y327 (ji8)), .string t331, .string (⟨#[]⟩ : ByteArray)] 29 (0, 0))) ∧ (b 3 = true → (m3_ : Value) = .pointer (some (adz_v319.add ((Go.bits .and .i64 a0 1)).toNat))) ∧ (b 13 = true → (m13_ : Value) = .pointer (some (adz_v324.add ((ji5)).toNat))) ∧ (b 20 = true → (m20_ : Value) = .pointer (some (adz_v328.add ((ji8)).toNat))) ∧ (b 27 = true → (m27_ : Value) = .pointer (some ⟨gb332, 0, none⟩))) HT_.out HW_.out (by kernel_rfl) (by kernel_rfl) ?_ ?_ ?_
                    · exact ⟨.bool false, ⟨0, 0, none⟩, .bool false, ⟨0, 0, none⟩, .bool false, ⟨0, 0, none⟩, 0, .bool false, .bool false, .bool false, .bool false, by simp only [putSel, Bool.false_eq_true, if_false], BK317.out, HB.out, fun h_ => absurd h_ (by decide), fun h_ => absurd h_ (by decide), fun h_ => absurd h_ (by decide), fun h_ => absurd h_ (by decide), fun h_ => absurd h_ (by decide), fun h_ => absurd h_ (by decide), fun h_ => absurd h_ (by decide), fun h_ => absurd h_ (by decide), fun h_ => absurd h_ (by decide), fun h_ => absurd h_ (by decide), fun h_ => absurd h_ (by decide), fun h_ => absurd h_ (by decide), fun h_ => absurd h_ (by decide), fun h_ => absurd h_ (by decide), fun h_ => absurd h_ (by decide), fun h_ => absurd h_ (by decide)⟩
                    · skip
                      clear BK317 HB
                      refine steps_cons ?_ ?_
                      · rintro b a w' ⟨v319, adz_v319, v324, adz_v324, v328, adz_v328, gb332, m3_, m13_, m20_, m27_, ha, Q_BK317, Q_HB, Q_HO320, Q_HA_HO320, Q_HO325, Q_HA_HO325, Q_HO329, Q_HA_HO329, Q_BK332, Q_GW332, Q_GE332, Q_NB317_332, Q_NB332_317, Q_BK332_e28, Q_X3_, Q_X13_, Q_X20_, Q_X27_⟩ hb_ hon hoff
                        refine ⟨_, rfl, fun K hK => ?_⟩
                        replace ha := Aside0.mk ha
                        have BK317 := Aside0.mk Q_BK317
                        have HB := Aside0.mk Q_HB
                        refine Kd.R_lit_step Kd.string _ 9 ?hg (N := 4) ?hd (xs := ([(⟨#[97]⟩ : ByteArray), (⟨#[98]⟩ : ByteArray)] : List ByteArray)) (inner := [.string (⟨#[97]⟩ : ByteArray), .string (⟨#[98]⟩ : ByteArray)]) (ok := fun _ => True) (okp := fun _ => True) ?hr ?hp (fun _ hk => hk) trivial (Below.refl _ _) (Nat.le_refl _) (by simp) ?_; (case hd => rfl); (case hg => rfl); (case hr => first | (go_simp; done) | (go_simp; rfl)); (case hp => exact (Reps.one (show Kd.M Kd.string _ _ _ (⟨#[97]⟩ : ByteArray) [.string (⟨#[97]⟩ : ByteArray)] from rfl) (Reps.one (show Kd.M Kd.string _ _ _ (⟨#[98]⟩ : ByteArray) [.string (⟨#[98]⟩ : ByteArray)] from rfl) (Reps.none _ _))))
                        intro v319 w18 ho19 hb hg_ hnew_
                        clear hg_ hnew_
                        (first | rw [← Ny318.out] at ho19 | (simp only [Int.reduceToNat] at ho19; rw [← Ny318.out] at ho19))
                        have n0_ := Aside0.mk (Kd.R_lower ho19 (below_size (by repeat (first | (with_reducible first | exact HB.out | apply below_alloc | apply pw_below_drewN | apply below_drew1 | refine below_set ?_ GE317.out) | exact HB.out))))
                        have n1_ := Aside0.mk (blk_below (g := gb317) (o := .cells #[.string (⟨#[]⟩ : ByteArray), .string (⟨#[]⟩ : ByteArray), .string (⟨#[]⟩ : ByteArray), .string (⟨#[]⟩ : ByteArray), .string (⟨#[]⟩ : ByteArray), .string (⟨#[]⟩ : ByteArray)] 29 (0, 0)) (by (with_reducible repeat (first | refine blk_drewN ?_ _ | refine blk_drew ?_ | refine blk_alloc ?_ _)); exact BK317.out) hb)
                        have n2_ := Aside0.mk (below_step (by repeat (first | (with_reducible first | exact HB.out | apply below_alloc | apply pw_below_drewN | apply below_drew1 | refine below_set ?_ GE317.out) | exact HB.out)) hb)
                        have z_HO325 := fun (h0_ : b 9 = true) => (show Kd.R Kd.string 9 w18 w.heap.size (fun _ => True) v324 y323 from by first | exact (Kd.R_elder' (by (with_reducible repeat (first | apply Kd.R_alloc | apply Kd.R_drewN | apply Kd.R_drew)); exact (Q_HO325 h0_)) (Kd.R_base ho19) hb) | exact Kd.R_mono (Kd.R_elder' (by (with_reducible repeat (first | apply Kd.R_alloc | apply Kd.R_drewN | apply Kd.R_drew)); exact (Q_HO325 h0_)) (Kd.R_base ho19) hb) (fun _ h_ => by first | trivial | exact h_ | exact h_.1))
                        have z_HO329 := fun (h0_ : b 15 = true) => (show Kd.R Kd.string 9 w18 w.heap.size (fun _ => True) v328 y327 from by first | exact (Kd.R_elder' (by (with_reducible repeat (first | apply Kd.R_alloc | apply Kd.R_drewN | apply Kd.R_drew)); exact (Q_HO329 h0_)) (Kd.R_base ho19) hb) | exact Kd.R_mono (Kd.R_elder' (by (with_reducible repeat (first | apply Kd.R_alloc | apply Kd.R_drewN | apply Kd.R_drew)); exact (Q_HO329 h0_)) (Kd.R_base ho19) hb) (fun _ h_ => by first | trivial | exact h_ | exact h_.1))
                        have z_BK332 := fun (h0_ : b 27 = true) (h1_ : b 28 = false) => (show w18.heap[gb332]? = some (.cells #[.string (⟨#[]⟩ : ByteArray), .string (⟨#[]⟩ : ByteArray), .string (⟨#[]⟩ : ByteArray), .string (⟨#[]⟩ : ByteArray), .string (⟨#[]⟩ : ByteArray), .string (⟨#[]⟩ : ByteArray)] 29 (0, 0)) from by first | exact (blk_below (g := gb332) (o := .cells #[.string (⟨#[]⟩ : ByteArray), .string (⟨#[]⟩ : ByteArray), .string (⟨#[]⟩ : ByteArray), .string (⟨#[]⟩ : ByteArray), .string (⟨#[]⟩ : ByteArray), .string (⟨#[]⟩ : ByteArray)] 29 (0, 0)) (by (with_reducible repeat (first | refine blk_drewN ?_ _ | refine blk_drew ?_ | refine blk_alloc ?_ _)); exact (Q_BK332 h0_ h1_)) hb))
                        clear BK317
                        clear HB
                        have HO320 := n0_
                        have BK317 := n1_
                        have HB := n2_
                        clear n0_ n1_ n2_
                        clear hb ho19
                        obtain ⟨Ao20, co20, eo20⟩ := Kd.R_slice HO320.out
                        subst eo20
                        obtain ⟨ado20, fo20, _⟩ := Kd.at_string (Kd.R_reads' HO320.out).2.2 0 (by decide) (by rw [Ny318.out]; simp)
                        cases fo20
                        refine hK.out _ _ ⟨.slice (some ado20) y318.length co20, ado20, v324, adz_v324, v328, adz_v328, gb332, m3_, m13_, m20_, m27_, (by rw [ha.out]; exact putSel_upk 0 hb_ rfl rfl rfl), (by (with_reducible repeat (first | refine blk_drewN ?_ _ | refine blk_drew ?_ | refine blk_alloc ?_ _)); exact BK317.out), (by repeat (first | (with_reducible first | exact HB.out | apply below_alloc | apply pw_below_drewN | apply below_drew1 | refine below_set ?_ GE317.out) | exact HB.out)), fun _ => (by (with_reducible repeat (first | apply Kd.R_alloc | apply Kd.R_drewN | apply Kd.R_drew)); exact HO320.out), fun _ => ⟨_, rfl⟩, z_HO325, Q_HA_HO325, z_HO329, Q_HA_HO329, z_BK332, Q_GW332, Q_GE332, Q_NB317_332, Q_NB332_317, fun h0_ => absurd ((hoff 28 (by kernel_rfl)).symm.trans h0_) (by decide), fun h0_ => absurd ((hoff 3 (by kernel_rfl)).symm.trans h0_) (by decide), Q_X13_, Q_X20_, Q_X27_⟩
                      refine steps_cons ?_ ?_
                      · rintro b a w' ⟨v319, adz_v319, v324, adz_v324, v328, adz_v328, gb332, m3_, m13_, m20_, m27_, ha, Q_BK317, Q_HB, Q_HO320, Q_HA_HO320, Q_HO325, Q_HA_HO325, Q_HO329, Q_HA_HO329, Q_BK332, Q_GW332, Q_GE332, Q_NB317_332, Q_NB332_317, Q_BK332_e28, Q_X3_, Q_X13_, Q_X20_, Q_X27_⟩ hb_ hon hoff
                        refine ⟨_, rfl, fun K hK => ?_⟩
                        have e5 : a.tmps[5]? = some (.int .i64 a0) := by rw [ha]; exact (putSel_off rfl).trans rfl
                        replace ha := Aside0.mk ha
                        have BK317 := Aside0.mk Q_BK317
                        have HB := Aside0.mk Q_HB
                        refine value_ (w1 := w') (v := .int .i64 (Go.bits .and .i64 a0 1)) (by rfl) rfl ?_ ?_
                        · go_simp
                          (try simp only [i64_w])
                          try rfl
                        refine hK.out _ _ ⟨v319, adz_v319, v324, adz_v324, v328, adz_v328, gb332, m3_, m13_, m20_, m27_, (by rw [ha.out]; exact putSel_upk 1 hb_ rfl rfl rfl), Q_BK317, Q_HB, Q_HO320, Q_HA_HO320, Q_HO325, Q_HA_HO325, Q_HO329, Q_HA_HO329, Q_BK332, Q_GW332, Q_GE332, Q_NB317_332, Q_NB332_317, fun h0_ => absurd ((hoff 28 (by kernel_rfl)).symm.trans h0_) (by decide), fun h0_ => absurd ((hoff 3 (by kernel_rfl)).symm.trans h0_) (by decide), Q_X13_, Q_X20_, Q_X27_⟩
                      refine steps_cons ?_ ?_
                      · rintro b a w' ⟨v319, adz_v319, v324, adz_v324, v328, adz_v328, gb332, m3_, m13_, m20_, m27_, ha, Q_BK317, Q_HB, Q_HO320, Q_HA_HO320, Q_HO325, Q_HA_HO325, Q_HO329, Q_HA_HO329, Q_BK332, Q_GW332, Q_GE332, Q_NB317_332, Q_NB332_317, Q_BK332_e28, Q_X3_, Q_X13_, Q_X20_, Q_X27_⟩ hb_ hon hoff
                        refine ⟨_, rfl, fun K hK => ?_⟩
                        have e4 : a.tmps[4]? = some (v319) := by rw [ha]; exact putSel_on (e := (0, 4, v319)) 0 rfl rfl (hon 0 (by kernel_rfl)) rfl
                        have e6 : a.tmps[6]? = some (.int .i64 (Go.bits .and .i64 a0 1)) := by rw [ha]; exact putSel_on (e := (2, 6, .int .i64 (Go.bits .and .i64 a0 1))) 1 rfl rfl (hon 2 (by kernel_rfl)) rfl
                        replace ha := Aside0.mk ha
                        have BK317 := Aside0.mk Q_BK317
                        have HB := Aside0.mk Q_HB
                        have HO320 := Aside0.mk (Q_HO320 (hon 0 (by kernel_rfl)))
                        have HA_HO320 := Aside0.mk (Q_HA_HO320 (hon 0 (by kernel_rfl)))
                        obtain ⟨c_, hv_⟩ := HA_HO320.out
                        rw [hv_] at e4
                        refine value_ (w1 := w') (v := .pointer (some (adz_v319.add ((Go.bits .and .i64 a0 1)).toNat))) (by rfl) rfl ?_ ?_
                        · go_simp
                          (try simp only [i64_w])
                          try rfl
                        refine hK.out _ _ ⟨v319, adz_v319, v324, adz_v324, v328, adz_v328, gb332, (.pointer (some (adz_v319.add ((Go.bits .and .i64 a0 1)).toNat))), m13_, m20_, m27_, (by rw [ha.out]; exact putSel_upk 2 hb_ rfl rfl rfl), Q_BK317, Q_HB, Q_HO320, Q_HA_HO320, Q_HO325, Q_HA_HO325, Q_HO329, Q_HA_HO329, Q_BK332, Q_GW332, Q_GE332, Q_NB317_332, Q_NB332_317, fun h0_ => absurd ((hoff 28 (by kernel_rfl)).symm.trans h0_) (by decide), fun _ => rfl, Q_X13_, Q_X20_, Q_X27_⟩
                      refine steps_cons ?_ ?_
                      · rintro b a w' ⟨v319, adz_v319, v324, adz_v324, v328, adz_v328, gb332, m3_, m13_, m20_, m27_, ha, Q_BK317, Q_HB, Q_HO320, Q_HA_HO320, Q_HO325, Q_HA_HO325, Q_HO329, Q_HA_HO329, Q_BK332, Q_GW332, Q_GE332, Q_NB317_332, Q_NB332_317, Q_BK332_e28, Q_X3_, Q_X13_, Q_X20_, Q_X27_⟩ hb_ hon hoff
                        refine ⟨_, rfl, fun K hK => ?_⟩
                        have e7 : a.tmps[7]? = some (m3_) := by rw [ha]; exact putSel_on (e := (3, 7, m3_)) 2 rfl rfl (hon 3 (by kernel_rfl)) rfl
                        rw [Q_X3_ (hon 3 (by kernel_rfl))] at e7
                        replace ha := Aside0.mk ha
                        have BK317 := Aside0.mk Q_BK317
                        have HB := Aside0.mk Q_HB
                        have HO320 := Aside0.mk (Q_HO320 (hon 0 (by kernel_rfl)))
                        have HA_HO320 := Aside0.mk (Q_HA_HO320 (hon 0 (by kernel_rfl)))
                        obtain ⟨c_, hv_⟩ := HA_HO320.out
                        have hF_ := HO320.out
                        rw [hv_] at hF_
                        obtain ⟨ad_, ea_, hx_⟩ := Kd.at_string (Kd.R_reads' hF_).2.2 (Go.bits .and .i64 a0 1) (of_eq_true pi321) (of_eq_true qi321)
                        cases ea_
                        refine value_ (w1 := w') (v := .string (rdOf ByteArray.empty y318 (Go.bits .and .i64 a0 1))) (by rfl) rfl ?_ ?_
                        · go_simp
                          (try simp only [i64_w])
                          try rfl
                        refine hK.out _ _ ⟨v319, adz_v319, v324, adz_v324, v328, adz_v328, gb332, m3_, m13_, m20_, m27_, (by rw [ha.out]; exact putSel_upk 3 hb_ rfl rfl rfl), Q_BK317, Q_HB, Q_HO320, Q_HA_HO320, Q_HO325, Q_HA_HO325, Q_HO329, Q_HA_HO329, Q_BK332, Q_GW332, Q_GE332, Q_NB317_332, Q_NB332_317, fun h0_ => absurd ((hoff 28 (by kernel_rfl)).symm.trans h0_) (by decide), Q_X3_, Q_X13_, Q_X20_, Q_X27_⟩
                      refine steps_cons ?_ ?_
                      · rintro b a w' ⟨v319, adz_v319, v324, adz_v324, v328, adz_v328, gb332, m3_, m13_, m20_, m27_, ha, Q_BK317, Q_HB, Q_HO320, Q_HA_HO320, Q_HO325, Q_HA_HO325, Q_HO329, Q_HA_HO329, Q_BK332, Q_GW332, Q_GE332, Q_NB317_332, Q_NB332_317, Q_BK332_e28, Q_X3_, Q_X13_, Q_X20_, Q_X27_⟩ hb_ hon hoff
                        refine ⟨_, rfl, fun K hK => ?_⟩
                        have e9 : a.tmps[9]? = some (.int .i64 a0) := by rw [ha]; exact (putSel_off rfl).trans rfl
                        replace ha := Aside0.mk ha
                        have BK317 := Aside0.mk Q_BK317
                        have HB := Aside0.mk Q_HB
                        refine value_ (w1 := w') (v := .int .i64 (a0 / 2)) (by rfl) rfl ?_ ?_
                        · go_simp
                          (try simp only [i64_w])
                          try rfl
                        refine hK.out _ _ ⟨v319, adz_v319, v324, adz_v324, v328, adz_v328, gb332, m3_, m13_, m20_, m27_, (by rw [ha.out]; exact putSel_upk 4 hb_ rfl rfl rfl), Q_BK317, Q_HB, Q_HO320, Q_HA_HO320, Q_HO325, Q_HA_HO325, Q_HO329, Q_HA_HO329, Q_BK332, Q_GW332, Q_GE332, Q_NB317_332, Q_NB332_317, fun h0_ => absurd ((hoff 28 (by kernel_rfl)).symm.trans h0_) (by decide), Q_X3_, Q_X13_, Q_X20_, Q_X27_⟩
                      refine steps_cons ?_ ?_
                      · rintro b a w' ⟨v319, adz_v319, v324, adz_v324, v328, adz_v328, gb332, m3_, m13_, m20_, m27_, ha, Q_BK317, Q_HB, Q_HO320, Q_HA_HO320, Q_HO325, Q_HA_HO325, Q_HO329, Q_HA_HO329, Q_BK332, Q_GW332, Q_GE332, Q_NB317_332, Q_NB332_317, Q_BK332_e28, Q_X3_, Q_X13_, Q_X20_, Q_X27_⟩ hb_ hon hoff
                        refine ⟨_, rfl, fun K hK => ?_⟩
                        have e10 : a.tmps[10]? = some (.int .i64 (a0 / 2)) := by rw [ha]; exact putSel_on (e := (6, 10, .int .i64 (a0 / 2))) 4 rfl rfl (hon 6 (by kernel_rfl)) rfl
                        replace ha := Aside0.mk ha
                        have BK317 := Aside0.mk Q_BK317
                        have HB := Aside0.mk Q_HB
                        refine goes_ Try.func15 (by kernel_rfl) rfl #[.int .i64 (a0 / 2)] (by rfl) rfl rfl (by first | (simp only [List.map_toArray, List.map_cons, List.map_nil, Act.eval, Array.getD_eq_getD_getElem?, Option.getD_some, e10]; done) | (simp only [List.map_toArray, List.map_cons, List.map_nil, Act.eval, Array.getD_eq_getD_getElem?, Option.getD_some, e10]; rfl)) ?_
                        with_reducible refine (entaillaw1_Nm.calls (a0 / 2) t322 _ A4.out).mono ?_
                        rintro e w18 ⟨rfl, hb⟩
                        refine ⟨_, rfl, ?_⟩
                        have n0_ := Aside0.mk (blk_below (g := gb317) (o := .cells #[.string (⟨#[]⟩ : ByteArray), .string (⟨#[]⟩ : ByteArray), .string (⟨#[]⟩ : ByteArray), .string (⟨#[]⟩ : ByteArray), .string (⟨#[]⟩ : ByteArray), .string (⟨#[]⟩ : ByteArray)] 29 (0, 0)) (by (with_reducible repeat (first | refine blk_drewN ?_ _ | refine blk_drew ?_ | refine blk_alloc ?_ _)); exact BK317.out) hb)
                        have n1_ := Aside0.mk (below_step (by repeat (first | (with_reducible first | exact HB.out | apply below_alloc | apply pw_below_drewN | apply below_drew1 | refine below_set ?_ GE317.out) | exact HB.out)) hb)
                        have z_HO320 := fun (h0_ : b 0 = true) => (show Kd.R Kd.string 9 w18 w.heap.size (fun _ => True) v319 y318 from by first | exact (Kd.R_below (by (with_reducible repeat (first | apply Kd.R_alloc | apply Kd.R_drewN | apply Kd.R_drew)); exact (Q_HO320 h0_)) hb) | exact Kd.R_mono (Kd.R_below (by (with_reducible repeat (first | apply Kd.R_alloc | apply Kd.R_drewN | apply Kd.R_drew)); exact (Q_HO320 h0_)) hb) (fun _ h_ => by first | trivial | exact h_ | exact h_.1))
                        have z_HO325 := fun (h0_ : b 9 = true) => (show Kd.R Kd.string 9 w18 w.heap.size (fun _ => True) v324 y323 from by first | exact (Kd.R_below (by (with_reducible repeat (first | apply Kd.R_alloc | apply Kd.R_drewN | apply Kd.R_drew)); exact (Q_HO325 h0_)) hb) | exact Kd.R_mono (Kd.R_below (by (with_reducible repeat (first | apply Kd.R_alloc | apply Kd.R_drewN | apply Kd.R_drew)); exact (Q_HO325 h0_)) hb) (fun _ h_ => by first | trivial | exact h_ | exact h_.1))
                        have z_HO329 := fun (h0_ : b 15 = true) => (show Kd.R Kd.string 9 w18 w.heap.size (fun _ => True) v328 y327 from by first | exact (Kd.R_below (by (with_reducible repeat (first | apply Kd.R_alloc | apply Kd.R_drewN | apply Kd.R_drew)); exact (Q_HO329 h0_)) hb) | exact Kd.R_mono (Kd.R_below (by (with_reducible repeat (first | apply Kd.R_alloc | apply Kd.R_drewN | apply Kd.R_drew)); exact (Q_HO329 h0_)) hb) (fun _ h_ => by first | trivial | exact h_ | exact h_.1))
                        have z_BK332 := fun (h0_ : b 27 = true) (h1_ : b 28 = false) => (show w18.heap[gb332]? = some (.cells #[.string (⟨#[]⟩ : ByteArray), .string (⟨#[]⟩ : ByteArray), .string (⟨#[]⟩ : ByteArray), .string (⟨#[]⟩ : ByteArray), .string (⟨#[]⟩ : ByteArray), .string (⟨#[]⟩ : ByteArray)] 29 (0, 0)) from by first | exact (blk_below (g := gb332) (o := .cells #[.string (⟨#[]⟩ : ByteArray), .string (⟨#[]⟩ : ByteArray), .string (⟨#[]⟩ : ByteArray), .string (⟨#[]⟩ : ByteArray), .string (⟨#[]⟩ : ByteArray), .string (⟨#[]⟩ : ByteArray)] 29 (0, 0)) (by (with_reducible repeat (first | refine blk_drewN ?_ _ | refine blk_drew ?_ | refine blk_alloc ?_ _)); exact (Q_BK332 h0_ h1_)) hb))
                        clear BK317
                        clear HB
                        have BK317 := n0_
                        have HB := n1_
                        clear n0_ n1_
                        (try clear hb)
                        (try clear hb2)
                        (try clear hk)
                        (try clear hi)
                        refine hK.out _ _ ⟨v319, adz_v319, v324, adz_v324, v328, adz_v328, gb332, m3_, m13_, m20_, m27_, (by rw [ha.out]; exact putSel_upk 5 hb_ rfl rfl rfl), (by (with_reducible repeat (first | refine blk_drewN ?_ _ | refine blk_drew ?_ | refine blk_alloc ?_ _)); exact BK317.out), (by repeat (first | (with_reducible first | exact HB.out | apply below_alloc | apply pw_below_drewN | apply below_drew1 | refine below_set ?_ GE317.out) | exact HB.out)), z_HO320, Q_HA_HO320, z_HO325, Q_HA_HO325, z_HO329, Q_HA_HO329, z_BK332, Q_GW332, Q_GE332, Q_NB317_332, Q_NB332_317, fun h0_ => absurd ((hoff 28 (by kernel_rfl)).symm.trans h0_) (by decide), Q_X3_, Q_X13_, Q_X20_, Q_X27_⟩
                      refine steps_cons ?_ ?_
                      · rintro b a w' ⟨v319, adz_v319, v324, adz_v324, v328, adz_v328, gb332, m3_, m13_, m20_, m27_, ha, Q_BK317, Q_HB, Q_HO320, Q_HA_HO320, Q_HO325, Q_HA_HO325, Q_HO329, Q_HA_HO329, Q_BK332, Q_GW332, Q_GE332, Q_NB317_332, Q_NB332_317, Q_BK332_e28, Q_X3_, Q_X13_, Q_X20_, Q_X27_⟩ hb_ hon hoff
                        refine ⟨_, rfl, fun K hK => ?_⟩
                        have e8 : a.tmps[8]? = some (.string (rdOf ByteArray.empty y318 (Go.bits .and .i64 a0 1))) := by rw [ha]; exact putSel_on (e := (4, 8, .string (rdOf ByteArray.empty y318 (Go.bits .and .i64 a0 1)))) 3 rfl rfl (hon 4 (by kernel_rfl)) rfl
                        have e11 : a.tmps[11]? = some (.string t322) := by rw [ha]; exact putSel_on (e := (7, 11, .string t322)) 5 rfl rfl (hon 7 (by kernel_rfl)) rfl
                        replace ha := Aside0.mk ha
                        have BK317 := Aside0.mk Q_BK317
                        have HB := Aside0.mk Q_HB
                        have HO320 := Aside0.mk (Q_HO320 (hon 0 (by kernel_rfl)))
                        have HA_HO320 := Aside0.mk (Q_HA_HO320 (hon 0 (by kernel_rfl)))
                        refine value_ (w1 := w') (v := .agg #[.string (rdOf ByteArray.empty y318 (Go.bits .and .i64 a0 1)), .string t322]) (by rfl) rfl ?_ ?_
                        · go_simp
                          (try simp only [i64_w])
                          try rfl
                        refine hK.out _ _ ⟨v319, adz_v319, v324, adz_v324, v328, adz_v328, gb332, m3_, m13_, m20_, m27_, (by rw [ha.out]; exact putSel_upk 6 hb_ rfl rfl rfl), Q_BK317, Q_HB, Q_HO320, Q_HA_HO320, Q_HO325, Q_HA_HO325, Q_HO329, Q_HA_HO329, Q_BK332, Q_GW332, Q_GE332, Q_NB317_332, Q_NB332_317, fun h0_ => absurd ((hoff 28 (by kernel_rfl)).symm.trans h0_) (by decide), Q_X3_, Q_X13_, Q_X20_, Q_X27_⟩
                      refine steps_cons ?_ ?_
                      · rintro b a w' ⟨v319, adz_v319, v324, adz_v324, v328, adz_v328, gb332, m3_, m13_, m20_, m27_, ha, Q_BK317, Q_HB, Q_HO320, Q_HA_HO320, Q_HO325, Q_HA_HO325, Q_HO329, Q_HA_HO329, Q_BK332, Q_GW332, Q_GE332, Q_NB317_332, Q_NB332_317, Q_BK332_e28, Q_X3_, Q_X13_, Q_X20_, Q_X27_⟩ hb_ hon hoff
                        refine ⟨_, rfl, fun K hK => ?_⟩
                        replace ha := Aside0.mk ha
                        have BK317 := Aside0.mk Q_BK317
                        have HB := Aside0.mk Q_HB
                        refine Kd.R_lit_step Kd.string _ 9 ?hg (N := 13) ?hd (xs := ([(⟨#[114]⟩ : ByteArray), (⟨#[115]⟩ : ByteArray)] : List ByteArray)) (inner := [.string (⟨#[114]⟩ : ByteArray), .string (⟨#[115]⟩ : ByteArray)]) (ok := fun _ => True) (okp := fun _ => True) ?hr ?hp (fun _ hk => hk) trivial (Below.refl _ _) (Nat.le_refl _) (by simp) ?_; (case hd => rfl); (case hg => rfl); (case hr => first | (go_simp; done) | (go_simp; rfl)); (case hp => exact (Reps.one (show Kd.M Kd.string _ _ _ (⟨#[114]⟩ : ByteArray) [.string (⟨#[114]⟩ : ByteArray)] from rfl) (Reps.one (show Kd.M Kd.string _ _ _ (⟨#[115]⟩ : ByteArray) [.string (⟨#[115]⟩ : ByteArray)] from rfl) (Reps.none _ _))))
                        intro v324 w18 ho19 hb hg_ hnew_
                        clear hg_ hnew_
                        (first | rw [← Ny323.out] at ho19 | (simp only [Int.reduceToNat] at ho19; rw [← Ny323.out] at ho19))
                        have n0_ := Aside0.mk (Kd.R_lower ho19 (below_size (by repeat (first | (with_reducible first | exact HB.out | apply below_alloc | apply pw_below_drewN | apply below_drew1 | refine below_set ?_ GE317.out) | exact HB.out))))
                        have n1_ := Aside0.mk (blk_below (g := gb317) (o := .cells #[.string (⟨#[]⟩ : ByteArray), .string (⟨#[]⟩ : ByteArray), .string (⟨#[]⟩ : ByteArray), .string (⟨#[]⟩ : ByteArray), .string (⟨#[]⟩ : ByteArray), .string (⟨#[]⟩ : ByteArray)] 29 (0, 0)) (by (with_reducible repeat (first | refine blk_drewN ?_ _ | refine blk_drew ?_ | refine blk_alloc ?_ _)); exact BK317.out) hb)
                        have n2_ := Aside0.mk (below_step (by repeat (first | (with_reducible first | exact HB.out | apply below_alloc | apply pw_below_drewN | apply below_drew1 | refine below_set ?_ GE317.out) | exact HB.out)) hb)
                        have z_HO320 := fun (h0_ : b 0 = true) => (show Kd.R Kd.string 9 w18 w.heap.size (fun _ => True) v319 y318 from by first | exact (Kd.R_elder' (by (with_reducible repeat (first | apply Kd.R_alloc | apply Kd.R_drewN | apply Kd.R_drew)); exact (Q_HO320 h0_)) (Kd.R_base ho19) hb) | exact Kd.R_mono (Kd.R_elder' (by (with_reducible repeat (first | apply Kd.R_alloc | apply Kd.R_drewN | apply Kd.R_drew)); exact (Q_HO320 h0_)) (Kd.R_base ho19) hb) (fun _ h_ => by first | trivial | exact h_ | exact h_.1))
                        have z_HO329 := fun (h0_ : b 15 = true) => (show Kd.R Kd.string 9 w18 w.heap.size (fun _ => True) v328 y327 from by first | exact (Kd.R_elder' (by (with_reducible repeat (first | apply Kd.R_alloc | apply Kd.R_drewN | apply Kd.R_drew)); exact (Q_HO329 h0_)) (Kd.R_base ho19) hb) | exact Kd.R_mono (Kd.R_elder' (by (with_reducible repeat (first | apply Kd.R_alloc | apply Kd.R_drewN | apply Kd.R_drew)); exact (Q_HO329 h0_)) (Kd.R_base ho19) hb) (fun _ h_ => by first | trivial | exact h_ | exact h_.1))
                        have z_BK332 := fun (h0_ : b 27 = true) (h1_ : b 28 = false) => (show w18.heap[gb332]? = some (.cells #[.string (⟨#[]⟩ : ByteArray), .string (⟨#[]⟩ : ByteArray), .string (⟨#[]⟩ : ByteArray), .string (⟨#[]⟩ : ByteArray), .string (⟨#[]⟩ : ByteArray), .string (⟨#[]⟩ : ByteArray)] 29 (0, 0)) from by first | exact (blk_below (g := gb332) (o := .cells #[.string (⟨#[]⟩ : ByteArray), .string (⟨#[]⟩ : ByteArray), .string (⟨#[]⟩ : ByteArray), .string (⟨#[]⟩ : ByteArray), .string (⟨#[]⟩ : ByteArray), .string (⟨#[]⟩ : ByteArray)] 29 (0, 0)) (by (with_reducible repeat (first | refine blk_drewN ?_ _ | refine blk_drew ?_ | refine blk_alloc ?_ _)); exact (Q_BK332 h0_ h1_)) hb))
                        clear BK317
                        clear HB
                        have HO325 := n0_
                        have BK317 := n1_
                        have HB := n2_
                        clear n0_ n1_ n2_
                        clear hb ho19
                        obtain ⟨Ao20, co20, eo20⟩ := Kd.R_slice HO325.out
                        subst eo20
                        obtain ⟨ado20, fo20, _⟩ := Kd.at_string (Kd.R_reads' HO325.out).2.2 0 (by decide) (by rw [Ny323.out]; simp)
                        cases fo20
                        refine hK.out _ _ ⟨v319, adz_v319, .slice (some ado20) y323.length co20, ado20, v328, adz_v328, gb332, m3_, m13_, m20_, m27_, (by rw [ha.out]; exact putSel_upk 7 hb_ rfl rfl rfl), (by (with_reducible repeat (first | refine blk_drewN ?_ _ | refine blk_drew ?_ | refine blk_alloc ?_ _)); exact BK317.out), (by repeat (first | (with_reducible first | exact HB.out | apply below_alloc | apply pw_below_drewN | apply below_drew1 | refine below_set ?_ GE317.out) | exact HB.out)), z_HO320, Q_HA_HO320, fun _ => (by (with_reducible repeat (first | apply Kd.R_alloc | apply Kd.R_drewN | apply Kd.R_drew)); exact HO325.out), fun _ => ⟨_, rfl⟩, z_HO329, Q_HA_HO329, z_BK332, Q_GW332, Q_GE332, Q_NB317_332, Q_NB332_317, fun h0_ => absurd ((hoff 28 (by kernel_rfl)).symm.trans h0_) (by decide), Q_X3_, fun h0_ => absurd ((hoff 13 (by kernel_rfl)).symm.trans h0_) (by decide), Q_X20_, Q_X27_⟩
                      refine steps_cons ?_ ?_
                      · rintro b a w' ⟨v319, adz_v319, v324, adz_v324, v328, adz_v328, gb332, m3_, m13_, m20_, m27_, ha, Q_BK317, Q_HB, Q_HO320, Q_HA_HO320, Q_HO325, Q_HA_HO325, Q_HO329, Q_HA_HO329, Q_BK332, Q_GW332, Q_GE332, Q_NB317_332, Q_NB332_317, Q_BK332_e28, Q_X3_, Q_X13_, Q_X20_, Q_X27_⟩ hb_ hon hoff
                        refine ⟨_, rfl, fun K hK => ?_⟩
                        have e14 : a.tmps[14]? = some (.int .i64 a0) := by rw [ha]; exact (putSel_off rfl).trans rfl
                        replace ha := Aside0.mk ha
                        have BK317 := Aside0.mk Q_BK317
                        have HB := Aside0.mk Q_HB
                        refine value_ (w1 := w') (v := .int .i64 (a0 / 16)) (by rfl) rfl ?_ ?_
                        · go_simp
                          (try simp only [i64_w])
                          try rfl
                        refine hK.out _ _ ⟨v319, adz_v319, v324, adz_v324, v328, adz_v328, gb332, m3_, m13_, m20_, m27_, (by rw [ha.out]; exact putSel_upk 8 hb_ rfl rfl rfl), Q_BK317, Q_HB, Q_HO320, Q_HA_HO320, Q_HO325, Q_HA_HO325, Q_HO329, Q_HA_HO329, Q_BK332, Q_GW332, Q_GE332, Q_NB317_332, Q_NB332_317, fun h0_ => absurd ((hoff 28 (by kernel_rfl)).symm.trans h0_) (by decide), Q_X3_, fun h0_ => absurd ((hoff 13 (by kernel_rfl)).symm.trans h0_) (by decide), Q_X20_, Q_X27_⟩
                      refine steps_cons ?_ ?_
                      · rintro b a w' ⟨v319, adz_v319, v324, adz_v324, v328, adz_v328, gb332, m3_, m13_, m20_, m27_, ha, Q_BK317, Q_HB, Q_HO320, Q_HA_HO320, Q_HO325, Q_HA_HO325, Q_HO329, Q_HA_HO329, Q_BK332, Q_GW332, Q_GE332, Q_NB317_332, Q_NB332_317, Q_BK332_e28, Q_X3_, Q_X13_, Q_X20_, Q_X27_⟩ hb_ hon hoff
                        refine ⟨_, rfl, fun K hK => ?_⟩
                        have e15 : a.tmps[15]? = some (.int .i64 (a0 / 16)) := by rw [ha]; exact putSel_on (e := (11, 15, .int .i64 (a0 / 16))) 8 rfl rfl (hon 11 (by kernel_rfl)) rfl
                        replace ha := Aside0.mk ha
                        have BK317 := Aside0.mk Q_BK317
                        have HB := Aside0.mk Q_HB
                        refine value_ (w1 := w') (v := .int .i64 ji5) (by rfl) rfl ?_ ?_
                        · go_simp
                          (try simp only [i64_w])
                          try rfl
                        refine hK.out _ _ ⟨v319, adz_v319, v324, adz_v324, v328, adz_v328, gb332, m3_, m13_, m20_, m27_, (by rw [ha.out]; exact putSel_upk 9 hb_ rfl rfl rfl), Q_BK317, Q_HB, Q_HO320, Q_HA_HO320, Q_HO325, Q_HA_HO325, Q_HO329, Q_HA_HO329, Q_BK332, Q_GW332, Q_GE332, Q_NB317_332, Q_NB332_317, fun h0_ => absurd ((hoff 28 (by kernel_rfl)).symm.trans h0_) (by decide), Q_X3_, fun h0_ => absurd ((hoff 13 (by kernel_rfl)).symm.trans h0_) (by decide), Q_X20_, Q_X27_⟩
                      refine steps_cons ?_ ?_
                      · rintro b a w' ⟨v319, adz_v319, v324, adz_v324, v328, adz_v328, gb332, m3_, m13_, m20_, m27_, ha, Q_BK317, Q_HB, Q_HO320, Q_HA_HO320, Q_HO325, Q_HA_HO325, Q_HO329, Q_HA_HO329, Q_BK332, Q_GW332, Q_GE332, Q_NB317_332, Q_NB332_317, Q_BK332_e28, Q_X3_, Q_X13_, Q_X20_, Q_X27_⟩ hb_ hon hoff
                        refine ⟨_, rfl, fun K hK => ?_⟩
                        have e13 : a.tmps[13]? = some (v324) := by rw [ha]; exact putSel_on (e := (9, 13, v324)) 7 rfl rfl (hon 9 (by kernel_rfl)) rfl
                        have e16 : a.tmps[16]? = some (.int .i64 ji5) := by rw [ha]; exact putSel_on (e := (12, 16, .int .i64 ji5)) 9 rfl rfl (hon 12 (by kernel_rfl)) rfl
                        replace ha := Aside0.mk ha
                        have BK317 := Aside0.mk Q_BK317
                        have HB := Aside0.mk Q_HB
                        have HO325 := Aside0.mk (Q_HO325 (hon 9 (by kernel_rfl)))
                        have HA_HO325 := Aside0.mk (Q_HA_HO325 (hon 9 (by kernel_rfl)))
                        obtain ⟨c_, hv_⟩ := HA_HO325.out
                        rw [hv_] at e13
                        refine value_ (w1 := w') (v := .pointer (some (adz_v324.add ((ji5)).toNat))) (by rfl) rfl ?_ ?_
                        · go_simp
                          (try simp only [i64_w])
                          try rfl
                        refine hK.out _ _ ⟨v319, adz_v319, v324, adz_v324, v328, adz_v328, gb332, m3_, (.pointer (some (adz_v324.add ((ji5)).toNat))), m20_, m27_, (by rw [ha.out]; exact putSel_upk 10 hb_ rfl rfl rfl), Q_BK317, Q_HB, Q_HO320, Q_HA_HO320, Q_HO325, Q_HA_HO325, Q_HO329, Q_HA_HO329, Q_BK332, Q_GW332, Q_GE332, Q_NB317_332, Q_NB332_317, fun h0_ => absurd ((hoff 28 (by kernel_rfl)).symm.trans h0_) (by decide), Q_X3_, fun _ => rfl, Q_X20_, Q_X27_⟩
                      refine steps_cons ?_ ?_
                      · rintro b a w' ⟨v319, adz_v319, v324, adz_v324, v328, adz_v328, gb332, m3_, m13_, m20_, m27_, ha, Q_BK317, Q_HB, Q_HO320, Q_HA_HO320, Q_HO325, Q_HA_HO325, Q_HO329, Q_HA_HO329, Q_BK332, Q_GW332, Q_GE332, Q_NB317_332, Q_NB332_317, Q_BK332_e28, Q_X3_, Q_X13_, Q_X20_, Q_X27_⟩ hb_ hon hoff
                        refine ⟨_, rfl, fun K hK => ?_⟩
                        have e17 : a.tmps[17]? = some (m13_) := by rw [ha]; exact putSel_on (e := (13, 17, m13_)) 10 rfl rfl (hon 13 (by kernel_rfl)) rfl
                        rw [Q_X13_ (hon 13 (by kernel_rfl))] at e17
                        replace ha := Aside0.mk ha
                        have BK317 := Aside0.mk Q_BK317
                        have HB := Aside0.mk Q_HB
                        have HO325 := Aside0.mk (Q_HO325 (hon 9 (by kernel_rfl)))
                        have HA_HO325 := Aside0.mk (Q_HA_HO325 (hon 9 (by kernel_rfl)))
                        obtain ⟨c_, hv_⟩ := HA_HO325.out
                        have hF_ := HO325.out
                        rw [hv_] at hF_
                        obtain ⟨ad_, ea_, hx_⟩ := Kd.at_string (Kd.R_reads' hF_).2.2 (ji5) (of_eq_true pi326) (of_eq_true qi326)
                        cases ea_
                        refine value_ (w1 := w') (v := .string (rdOf ByteArray.empty y323 (ji5))) (by rfl) rfl ?_ ?_
                        · go_simp
                          (try simp only [i64_w])
                          try rfl
                        refine hK.out _ _ ⟨v319, adz_v319, v324, adz_v324, v328, adz_v328, gb332, m3_, m13_, m20_, m27_, (by rw [ha.out]; exact putSel_upk 11 hb_ rfl rfl rfl), Q_BK317, Q_HB, Q_HO320, Q_HA_HO320, Q_HO325, Q_HA_HO325, Q_HO329, Q_HA_HO329, Q_BK332, Q_GW332, Q_GE332, Q_NB317_332, Q_NB332_317, fun h0_ => absurd ((hoff 28 (by kernel_rfl)).symm.trans h0_) (by decide), Q_X3_, Q_X13_, Q_X20_, Q_X27_⟩
                      refine steps_cons ?_ ?_
                      · rintro b a w' ⟨v319, adz_v319, v324, adz_v324, v328, adz_v328, gb332, m3_, m13_, m20_, m27_, ha, Q_BK317, Q_HB, Q_HO320, Q_HA_HO320, Q_HO325, Q_HA_HO325, Q_HO329, Q_HA_HO329, Q_BK332, Q_GW332, Q_GE332, Q_NB317_332, Q_NB332_317, Q_BK332_e28, Q_X3_, Q_X13_, Q_X20_, Q_X27_⟩ hb_ hon hoff
                        refine ⟨_, rfl, fun K hK => ?_⟩
                        replace ha := Aside0.mk ha
                        have BK317 := Aside0.mk Q_BK317
                        have HB := Aside0.mk Q_HB
                        refine Kd.R_lit_step Kd.string _ 9 ?hg (N := 19) ?hd (xs := ([(⟨#[117]⟩ : ByteArray), (⟨#[97]⟩ : ByteArray), (⟨#[98]⟩ : ByteArray)] : List ByteArray)) (inner := [.string (⟨#[117]⟩ : ByteArray), .string (⟨#[97]⟩ : ByteArray), .string (⟨#[98]⟩ : ByteArray)]) (ok := fun _ => True) (okp := fun _ => True) ?hr ?hp (fun _ hk => hk) trivial (Below.refl _ _) (Nat.le_refl _) (by simp) ?_; (case hd => rfl); (case hg => rfl); (case hr => first | (go_simp; done) | (go_simp; rfl)); (case hp => exact (Reps.one (show Kd.M Kd.string _ _ _ (⟨#[117]⟩ : ByteArray) [.string (⟨#[117]⟩ : ByteArray)] from rfl) (Reps.one (show Kd.M Kd.string _ _ _ (⟨#[97]⟩ : ByteArray) [.string (⟨#[97]⟩ : ByteArray)] from rfl) (Reps.one (show Kd.M Kd.string _ _ _ (⟨#[98]⟩ : ByteArray) [.string (⟨#[98]⟩ : ByteArray)] from rfl) (Reps.none _ _)))))
                        intro v328 w18 ho19 hb hg_ hnew_
                        clear hg_ hnew_
                        (first | rw [← Ny327.out] at ho19 | (simp only [Int.reduceToNat] at ho19; rw [← Ny327.out] at ho19))
                        have n0_ := Aside0.mk (Kd.R_lower ho19 (below_size (by repeat (first | (with_reducible first | exact HB.out | apply below_alloc | apply pw_below_drewN | apply below_drew1 | refine below_set ?_ GE317.out) | exact HB.out))))
                        have n1_ := Aside0.mk (blk_below (g := gb317) (o := .cells #[.string (⟨#[]⟩ : ByteArray), .string (⟨#[]⟩ : ByteArray), .string (⟨#[]⟩ : ByteArray), .string (⟨#[]⟩ : ByteArray), .string (⟨#[]⟩ : ByteArray), .string (⟨#[]⟩ : ByteArray)] 29 (0, 0)) (by (with_reducible repeat (first | refine blk_drewN ?_ _ | refine blk_drew ?_ | refine blk_alloc ?_ _)); exact BK317.out) hb)
                        have n2_ := Aside0.mk (below_step (by repeat (first | (with_reducible first | exact HB.out | apply below_alloc | apply pw_below_drewN | apply below_drew1 | refine below_set ?_ GE317.out) | exact HB.out)) hb)
                        have z_HO320 := fun (h0_ : b 0 = true) => (show Kd.R Kd.string 9 w18 w.heap.size (fun _ => True) v319 y318 from by first | exact (Kd.R_elder' (by (with_reducible repeat (first | apply Kd.R_alloc | apply Kd.R_drewN | apply Kd.R_drew)); exact (Q_HO320 h0_)) (Kd.R_base ho19) hb) | exact Kd.R_mono (Kd.R_elder' (by (with_reducible repeat (first | apply Kd.R_alloc | apply Kd.R_drewN | apply Kd.R_drew)); exact (Q_HO320 h0_)) (Kd.R_base ho19) hb) (fun _ h_ => by first | trivial | exact h_ | exact h_.1))
                        have z_HO325 := fun (h0_ : b 9 = true) => (show Kd.R Kd.string 9 w18 w.heap.size (fun _ => True) v324 y323 from by first | exact (Kd.R_elder' (by (with_reducible repeat (first | apply Kd.R_alloc | apply Kd.R_drewN | apply Kd.R_drew)); exact (Q_HO325 h0_)) (Kd.R_base ho19) hb) | exact Kd.R_mono (Kd.R_elder' (by (with_reducible repeat (first | apply Kd.R_alloc | apply Kd.R_drewN | apply Kd.R_drew)); exact (Q_HO325 h0_)) (Kd.R_base ho19) hb) (fun _ h_ => by first | trivial | exact h_ | exact h_.1))
                        have z_BK332 := fun (h0_ : b 27 = true) (h1_ : b 28 = false) => (show w18.heap[gb332]? = some (.cells #[.string (⟨#[]⟩ : ByteArray), .string (⟨#[]⟩ : ByteArray), .string (⟨#[]⟩ : ByteArray), .string (⟨#[]⟩ : ByteArray), .string (⟨#[]⟩ : ByteArray), .string (⟨#[]⟩ : ByteArray)] 29 (0, 0)) from by first | exact (blk_below (g := gb332) (o := .cells #[.string (⟨#[]⟩ : ByteArray), .string (⟨#[]⟩ : ByteArray), .string (⟨#[]⟩ : ByteArray), .string (⟨#[]⟩ : ByteArray), .string (⟨#[]⟩ : ByteArray), .string (⟨#[]⟩ : ByteArray)] 29 (0, 0)) (by (with_reducible repeat (first | refine blk_drewN ?_ _ | refine blk_drew ?_ | refine blk_alloc ?_ _)); exact (Q_BK332 h0_ h1_)) hb))
                        clear BK317
                        clear HB
                        have HO329 := n0_
                        have BK317 := n1_
                        have HB := n2_
                        clear n0_ n1_ n2_
                        clear hb ho19
                        obtain ⟨Ao20, co20, eo20⟩ := Kd.R_slice HO329.out
                        subst eo20
                        obtain ⟨ado20, fo20, _⟩ := Kd.at_string (Kd.R_reads' HO329.out).2.2 0 (by decide) (by rw [Ny327.out]; simp)
                        cases fo20
                        refine hK.out _ _ ⟨v319, adz_v319, v324, adz_v324, .slice (some ado20) y327.length co20, ado20, gb332, m3_, m13_, m20_, m27_, (by rw [ha.out]; exact putSel_upk 12 hb_ rfl rfl rfl), (by (with_reducible repeat (first | refine blk_drewN ?_ _ | refine blk_drew ?_ | refine blk_alloc ?_ _)); exact BK317.out), (by repeat (first | (with_reducible first | exact HB.out | apply below_alloc | apply pw_below_drewN | apply below_drew1 | refine below_set ?_ GE317.out) | exact HB.out)), z_HO320, Q_HA_HO320, z_HO325, Q_HA_HO325, fun _ => (by (with_reducible repeat (first | apply Kd.R_alloc | apply Kd.R_drewN | apply Kd.R_drew)); exact HO329.out), fun _ => ⟨_, rfl⟩, z_BK332, Q_GW332, Q_GE332, Q_NB317_332, Q_NB332_317, fun h0_ => absurd ((hoff 28 (by kernel_rfl)).symm.trans h0_) (by decide), Q_X3_, Q_X13_, fun h0_ => absurd ((hoff 20 (by kernel_rfl)).symm.trans h0_) (by decide), Q_X27_⟩
                      refine steps_cons ?_ ?_
                      · rintro b a w' ⟨v319, adz_v319, v324, adz_v324, v328, adz_v328, gb332, m3_, m13_, m20_, m27_, ha, Q_BK317, Q_HB, Q_HO320, Q_HA_HO320, Q_HO325, Q_HA_HO325, Q_HO329, Q_HA_HO329, Q_BK332, Q_GW332, Q_GE332, Q_NB317_332, Q_NB332_317, Q_BK332_e28, Q_X3_, Q_X13_, Q_X20_, Q_X27_⟩ hb_ hon hoff
                        refine ⟨_, rfl, fun K hK => ?_⟩
                        have e20 : a.tmps[20]? = some (.int .i64 a0) := by rw [ha]; exact (putSel_off rfl).trans rfl
                        replace ha := Aside0.mk ha
                        have BK317 := Aside0.mk Q_BK317
                        have HB := Aside0.mk Q_HB
                        refine value_ (w1 := w') (v := .int .i64 (a0 / 32)) (by rfl) rfl ?_ ?_
                        · go_simp
                          (try simp only [i64_w])
                          try rfl
                        refine hK.out _ _ ⟨v319, adz_v319, v324, adz_v324, v328, adz_v328, gb332, m3_, m13_, m20_, m27_, (by rw [ha.out]; exact putSel_upk 13 hb_ rfl rfl rfl), Q_BK317, Q_HB, Q_HO320, Q_HA_HO320, Q_HO325, Q_HA_HO325, Q_HO329, Q_HA_HO329, Q_BK332, Q_GW332, Q_GE332, Q_NB317_332, Q_NB332_317, fun h0_ => absurd ((hoff 28 (by kernel_rfl)).symm.trans h0_) (by decide), Q_X3_, Q_X13_, fun h0_ => absurd ((hoff 20 (by kernel_rfl)).symm.trans h0_) (by decide), Q_X27_⟩
                      refine steps_cons ?_ ?_
                      · rintro b a w' ⟨v319, adz_v319, v324, adz_v324, v328, adz_v328, gb332, m3_, m13_, m20_, m27_, ha, Q_BK317, Q_HB, Q_HO320, Q_HA_HO320, Q_HO325, Q_HA_HO325, Q_HO329, Q_HA_HO329, Q_BK332, Q_GW332, Q_GE332, Q_NB317_332, Q_NB332_317, Q_BK332_e28, Q_X3_, Q_X13_, Q_X20_, Q_X27_⟩ hb_ hon hoff
                        refine ⟨_, rfl, fun K hK => ?_⟩
                        have e21 : a.tmps[21]? = some (.int .i64 (a0 / 32)) := by rw [ha]; exact putSel_on (e := (17, 21, .int .i64 (a0 / 32))) 13 rfl rfl (hon 17 (by kernel_rfl)) rfl
                        replace ha := Aside0.mk ha
                        have BK317 := Aside0.mk Q_BK317
                        have HB := Aside0.mk Q_HB
                        refine value_ (w1 := w') (v := .int .i64 (Go.bits .and .i64 (a0 / 32) 255)) (by rfl) rfl ?_ ?_
                        · go_simp
                          (try simp only [i64_w])
                          try rfl
                        refine hK.out _ _ ⟨v319, adz_v319, v324, adz_v324, v328, adz_v328, gb332, m3_, m13_, m20_, m27_, (by rw [ha.out]; exact putSel_upk 14 hb_ rfl rfl rfl), Q_BK317, Q_HB, Q_HO320, Q_HA_HO320, Q_HO325, Q_HA_HO325, Q_HO329, Q_HA_HO329, Q_BK332, Q_GW332, Q_GE332, Q_NB317_332, Q_NB332_317, fun h0_ => absurd ((hoff 28 (by kernel_rfl)).symm.trans h0_) (by decide), Q_X3_, Q_X13_, fun h0_ => absurd ((hoff 20 (by kernel_rfl)).symm.trans h0_) (by decide), Q_X27_⟩
                      refine steps_cons ?_ ?_
                      · rintro b a w' ⟨v319, adz_v319, v324, adz_v324, v328, adz_v328, gb332, m3_, m13_, m20_, m27_, ha, Q_BK317, Q_HB, Q_HO320, Q_HA_HO320, Q_HO325, Q_HA_HO325, Q_HO329, Q_HA_HO329, Q_BK332, Q_GW332, Q_GE332, Q_NB317_332, Q_NB332_317, Q_BK332_e28, Q_X3_, Q_X13_, Q_X20_, Q_X27_⟩ hb_ hon hoff
                        refine ⟨_, rfl, fun K hK => ?_⟩
                        have e22 : a.tmps[22]? = some (.int .i64 (Go.bits .and .i64 (a0 / 32) 255)) := by rw [ha]; exact putSel_on (e := (18, 22, .int .i64 (Go.bits .and .i64 (a0 / 32) 255))) 14 rfl rfl (hon 18 (by kernel_rfl)) rfl
                        replace ha := Aside0.mk ha
                        have BK317 := Aside0.mk Q_BK317
                        have HB := Aside0.mk Q_HB
                        refine value_ (w1 := w') (v := .int .i64 ji8) (by rfl) rfl ?_ ?_
                        · go_simp
                          (try simp only [i64_w])
                          try rfl
                        refine hK.out _ _ ⟨v319, adz_v319, v324, adz_v324, v328, adz_v328, gb332, m3_, m13_, m20_, m27_, (by rw [ha.out]; exact putSel_upk 15 hb_ rfl rfl rfl), Q_BK317, Q_HB, Q_HO320, Q_HA_HO320, Q_HO325, Q_HA_HO325, Q_HO329, Q_HA_HO329, Q_BK332, Q_GW332, Q_GE332, Q_NB317_332, Q_NB332_317, fun h0_ => absurd ((hoff 28 (by kernel_rfl)).symm.trans h0_) (by decide), Q_X3_, Q_X13_, fun h0_ => absurd ((hoff 20 (by kernel_rfl)).symm.trans h0_) (by decide), Q_X27_⟩
                      refine steps_cons ?_ ?_
                      · rintro b a w' ⟨v319, adz_v319, v324, adz_v324, v328, adz_v328, gb332, m3_, m13_, m20_, m27_, ha, Q_BK317, Q_HB, Q_HO320, Q_HA_HO320, Q_HO325, Q_HA_HO325, Q_HO329, Q_HA_HO329, Q_BK332, Q_GW332, Q_GE332, Q_NB317_332, Q_NB332_317, Q_BK332_e28, Q_X3_, Q_X13_, Q_X20_, Q_X27_⟩ hb_ hon hoff
                        refine ⟨_, rfl, fun K hK => ?_⟩
                        have e19 : a.tmps[19]? = some (v328) := by rw [ha]; exact putSel_on (e := (15, 19, v328)) 12 rfl rfl (hon 15 (by kernel_rfl)) rfl
                        have e23 : a.tmps[23]? = some (.int .i64 ji8) := by rw [ha]; exact putSel_on (e := (19, 23, .int .i64 ji8)) 15 rfl rfl (hon 19 (by kernel_rfl)) rfl
                        replace ha := Aside0.mk ha
                        have BK317 := Aside0.mk Q_BK317
                        have HB := Aside0.mk Q_HB
                        have HO329 := Aside0.mk (Q_HO329 (hon 15 (by kernel_rfl)))
                        have HA_HO329 := Aside0.mk (Q_HA_HO329 (hon 15 (by kernel_rfl)))
                        obtain ⟨c_, hv_⟩ := HA_HO329.out
                        rw [hv_] at e19
                        refine value_ (w1 := w') (v := .pointer (some (adz_v328.add ((ji8)).toNat))) (by rfl) rfl ?_ ?_
                        · go_simp
                          (try simp only [i64_w])
                          try rfl
                        refine hK.out _ _ ⟨v319, adz_v319, v324, adz_v324, v328, adz_v328, gb332, m3_, m13_, (.pointer (some (adz_v328.add ((ji8)).toNat))), m27_, (by rw [ha.out]; exact putSel_upk 16 hb_ rfl rfl rfl), Q_BK317, Q_HB, Q_HO320, Q_HA_HO320, Q_HO325, Q_HA_HO325, Q_HO329, Q_HA_HO329, Q_BK332, Q_GW332, Q_GE332, Q_NB317_332, Q_NB332_317, fun h0_ => absurd ((hoff 28 (by kernel_rfl)).symm.trans h0_) (by decide), Q_X3_, Q_X13_, fun _ => rfl, Q_X27_⟩
                      refine steps_cons ?_ ?_
                      · rintro b a w' ⟨v319, adz_v319, v324, adz_v324, v328, adz_v328, gb332, m3_, m13_, m20_, m27_, ha, Q_BK317, Q_HB, Q_HO320, Q_HA_HO320, Q_HO325, Q_HA_HO325, Q_HO329, Q_HA_HO329, Q_BK332, Q_GW332, Q_GE332, Q_NB317_332, Q_NB332_317, Q_BK332_e28, Q_X3_, Q_X13_, Q_X20_, Q_X27_⟩ hb_ hon hoff
                        refine ⟨_, rfl, fun K hK => ?_⟩
                        have e24 : a.tmps[24]? = some (m20_) := by rw [ha]; exact putSel_on (e := (20, 24, m20_)) 16 rfl rfl (hon 20 (by kernel_rfl)) rfl
                        rw [Q_X20_ (hon 20 (by kernel_rfl))] at e24
                        replace ha := Aside0.mk ha
                        have BK317 := Aside0.mk Q_BK317
                        have HB := Aside0.mk Q_HB
                        have HO329 := Aside0.mk (Q_HO329 (hon 15 (by kernel_rfl)))
                        have HA_HO329 := Aside0.mk (Q_HA_HO329 (hon 15 (by kernel_rfl)))
                        obtain ⟨c_, hv_⟩ := HA_HO329.out
                        have hF_ := HO329.out
                        rw [hv_] at hF_
                        obtain ⟨ad_, ea_, hx_⟩ := Kd.at_string (Kd.R_reads' hF_).2.2 (ji8) (of_eq_true pi330) (of_eq_true qi330)
                        cases ea_
                        refine value_ (w1 := w') (v := .string (rdOf ByteArray.empty y327 (ji8))) (by rfl) rfl ?_ ?_
                        · go_simp
                          (try simp only [i64_w])
                          try rfl
                        refine hK.out _ _ ⟨v319, adz_v319, v324, adz_v324, v328, adz_v328, gb332, m3_, m13_, m20_, m27_, (by rw [ha.out]; exact putSel_upk 17 hb_ rfl rfl rfl), Q_BK317, Q_HB, Q_HO320, Q_HA_HO320, Q_HO325, Q_HA_HO325, Q_HO329, Q_HA_HO329, Q_BK332, Q_GW332, Q_GE332, Q_NB317_332, Q_NB332_317, fun h0_ => absurd ((hoff 28 (by kernel_rfl)).symm.trans h0_) (by decide), Q_X3_, Q_X13_, Q_X20_, Q_X27_⟩
                      refine steps_cons ?_ ?_
                      · rintro b a w' ⟨v319, adz_v319, v324, adz_v324, v328, adz_v328, gb332, m3_, m13_, m20_, m27_, ha, Q_BK317, Q_HB, Q_HO320, Q_HA_HO320, Q_HO325, Q_HA_HO325, Q_HO329, Q_HA_HO329, Q_BK332, Q_GW332, Q_GE332, Q_NB317_332, Q_NB332_317, Q_BK332_e28, Q_X3_, Q_X13_, Q_X20_, Q_X27_⟩ hb_ hon hoff
                        refine ⟨_, rfl, fun K hK => ?_⟩
                        have e26 : a.tmps[26]? = some (.int .i64 a0) := by rw [ha]; exact (putSel_off rfl).trans rfl
                        replace ha := Aside0.mk ha
                        have BK317 := Aside0.mk Q_BK317
                        have HB := Aside0.mk Q_HB
                        refine value_ (w1 := w') (v := .int .i64 (a0 / 8192)) (by rfl) rfl ?_ ?_
                        · go_simp
                          (try simp only [i64_w])
                          try rfl
                        refine hK.out _ _ ⟨v319, adz_v319, v324, adz_v324, v328, adz_v328, gb332, m3_, m13_, m20_, m27_, (by rw [ha.out]; exact putSel_upk 18 hb_ rfl rfl rfl), Q_BK317, Q_HB, Q_HO320, Q_HA_HO320, Q_HO325, Q_HA_HO325, Q_HO329, Q_HA_HO329, Q_BK332, Q_GW332, Q_GE332, Q_NB317_332, Q_NB332_317, fun h0_ => absurd ((hoff 28 (by kernel_rfl)).symm.trans h0_) (by decide), Q_X3_, Q_X13_, Q_X20_, Q_X27_⟩
                      refine steps_cons ?_ ?_
                      · rintro b a w' ⟨v319, adz_v319, v324, adz_v324, v328, adz_v328, gb332, m3_, m13_, m20_, m27_, ha, Q_BK317, Q_HB, Q_HO320, Q_HA_HO320, Q_HO325, Q_HA_HO325, Q_HO329, Q_HA_HO329, Q_BK332, Q_GW332, Q_GE332, Q_NB317_332, Q_NB332_317, Q_BK332_e28, Q_X3_, Q_X13_, Q_X20_, Q_X27_⟩ hb_ hon hoff
                        refine ⟨_, rfl, fun K hK => ?_⟩
                        have e27 : a.tmps[27]? = some (.int .i64 (a0 / 8192)) := by rw [ha]; exact putSel_on (e := (23, 27, .int .i64 (a0 / 8192))) 18 rfl rfl (hon 23 (by kernel_rfl)) rfl
                        replace ha := Aside0.mk ha
                        have BK317 := Aside0.mk Q_BK317
                        have HB := Aside0.mk Q_HB
                        refine goes_ Try.func15 (by kernel_rfl) rfl #[.int .i64 (a0 / 8192)] (by rfl) rfl rfl (by first | (simp only [List.map_toArray, List.map_cons, List.map_nil, Act.eval, Array.getD_eq_getD_getElem?, Option.getD_some, e27]; done) | (simp only [List.map_toArray, List.map_cons, List.map_nil, Act.eval, Array.getD_eq_getD_getElem?, Option.getD_some, e27]; rfl)) ?_
                        with_reducible refine (entaillaw1_Nm.calls (a0 / 8192) t331 _ A11.out).mono ?_
                        rintro e w20 ⟨rfl, hb⟩
                        refine ⟨_, rfl, ?_⟩
                        have n0_ := Aside0.mk (blk_below (g := gb317) (o := .cells #[.string (⟨#[]⟩ : ByteArray), .string (⟨#[]⟩ : ByteArray), .string (⟨#[]⟩ : ByteArray), .string (⟨#[]⟩ : ByteArray), .string (⟨#[]⟩ : ByteArray), .string (⟨#[]⟩ : ByteArray)] 29 (0, 0)) (by (with_reducible repeat (first | refine blk_drewN ?_ _ | refine blk_drew ?_ | refine blk_alloc ?_ _)); exact BK317.out) hb)
                        have n1_ := Aside0.mk (below_step (by repeat (first | (with_reducible first | exact HB.out | apply below_alloc | apply pw_below_drewN | apply below_drew1 | refine below_set ?_ GE317.out) | exact HB.out)) hb)
                        have z_HO320 := fun (h0_ : b 0 = true) => (show Kd.R Kd.string 9 w20 w.heap.size (fun _ => True) v319 y318 from by first | exact (Kd.R_below (by (with_reducible repeat (first | apply Kd.R_alloc | apply Kd.R_drewN | apply Kd.R_drew)); exact (Q_HO320 h0_)) hb) | exact Kd.R_mono (Kd.R_below (by (with_reducible repeat (first | apply Kd.R_alloc | apply Kd.R_drewN | apply Kd.R_drew)); exact (Q_HO320 h0_)) hb) (fun _ h_ => by first | trivial | exact h_ | exact h_.1))
                        have z_HO325 := fun (h0_ : b 9 = true) => (show Kd.R Kd.string 9 w20 w.heap.size (fun _ => True) v324 y323 from by first | exact (Kd.R_below (by (with_reducible repeat (first | apply Kd.R_alloc | apply Kd.R_drewN | apply Kd.R_drew)); exact (Q_HO325 h0_)) hb) | exact Kd.R_mono (Kd.R_below (by (with_reducible repeat (first | apply Kd.R_alloc | apply Kd.R_drewN | apply Kd.R_drew)); exact (Q_HO325 h0_)) hb) (fun _ h_ => by first | trivial | exact h_ | exact h_.1))
                        have z_HO329 := fun (h0_ : b 15 = true) => (show Kd.R Kd.string 9 w20 w.heap.size (fun _ => True) v328 y327 from by first | exact (Kd.R_below (by (with_reducible repeat (first | apply Kd.R_alloc | apply Kd.R_drewN | apply Kd.R_drew)); exact (Q_HO329 h0_)) hb) | exact Kd.R_mono (Kd.R_below (by (with_reducible repeat (first | apply Kd.R_alloc | apply Kd.R_drewN | apply Kd.R_drew)); exact (Q_HO329 h0_)) hb) (fun _ h_ => by first | trivial | exact h_ | exact h_.1))
                        have z_BK332 := fun (h0_ : b 27 = true) (h1_ : b 28 = false) => (show w20.heap[gb332]? = some (.cells #[.string (⟨#[]⟩ : ByteArray), .string (⟨#[]⟩ : ByteArray), .string (⟨#[]⟩ : ByteArray), .string (⟨#[]⟩ : ByteArray), .string (⟨#[]⟩ : ByteArray), .string (⟨#[]⟩ : ByteArray)] 29 (0, 0)) from by first | exact (blk_below (g := gb332) (o := .cells #[.string (⟨#[]⟩ : ByteArray), .string (⟨#[]⟩ : ByteArray), .string (⟨#[]⟩ : ByteArray), .string (⟨#[]⟩ : ByteArray), .string (⟨#[]⟩ : ByteArray), .string (⟨#[]⟩ : ByteArray)] 29 (0, 0)) (by (with_reducible repeat (first | refine blk_drewN ?_ _ | refine blk_drew ?_ | refine blk_alloc ?_ _)); exact (Q_BK332 h0_ h1_)) hb))
                        clear BK317
                        clear HB
                        have BK317 := n0_
                        have HB := n1_
                        clear n0_ n1_
                        (try clear hb)
                        (try clear hb2)
                        (try clear hk)
                        (try clear hi)
                        refine hK.out _ _ ⟨v319, adz_v319, v324, adz_v324, v328, adz_v328, gb332, m3_, m13_, m20_, m27_, (by rw [ha.out]; exact putSel_upk 19 hb_ rfl rfl rfl), (by (with_reducible repeat (first | refine blk_drewN ?_ _ | refine blk_drew ?_ | refine blk_alloc ?_ _)); exact BK317.out), (by repeat (first | (with_reducible first | exact HB.out | apply below_alloc | apply pw_below_drewN | apply below_drew1 | refine below_set ?_ GE317.out) | exact HB.out)), z_HO320, Q_HA_HO320, z_HO325, Q_HA_HO325, z_HO329, Q_HA_HO329, z_BK332, Q_GW332, Q_GE332, Q_NB317_332, Q_NB332_317, fun h0_ => absurd ((hoff 28 (by kernel_rfl)).symm.trans h0_) (by decide), Q_X3_, Q_X13_, Q_X20_, Q_X27_⟩
                      refine steps_cons ?_ ?_
                      · rintro b a w' ⟨v319, adz_v319, v324, adz_v324, v328, adz_v328, gb332, m3_, m13_, m20_, m27_, ha, Q_BK317, Q_HB, Q_HO320, Q_HA_HO320, Q_HO325, Q_HA_HO325, Q_HO329, Q_HA_HO329, Q_BK332, Q_GW332, Q_GE332, Q_NB317_332, Q_NB332_317, Q_BK332_e28, Q_X3_, Q_X13_, Q_X20_, Q_X27_⟩ hb_ hon hoff
                        refine ⟨_, rfl, fun K hK => ?_⟩
                        have e25 : a.tmps[25]? = some (.string (rdOf ByteArray.empty y327 (ji8))) := by rw [ha]; exact putSel_on (e := (21, 25, .string (rdOf ByteArray.empty y327 (ji8)))) 17 rfl rfl (hon 21 (by kernel_rfl)) rfl
                        have e28 : a.tmps[28]? = some (.string t331) := by rw [ha]; exact putSel_on (e := (24, 28, .string t331)) 19 rfl rfl (hon 24 (by kernel_rfl)) rfl
                        replace ha := Aside0.mk ha
                        have BK317 := Aside0.mk Q_BK317
                        have HB := Aside0.mk Q_HB
                        have HO329 := Aside0.mk (Q_HO329 (hon 15 (by kernel_rfl)))
                        have HA_HO329 := Aside0.mk (Q_HA_HO329 (hon 15 (by kernel_rfl)))
                        refine value_ (w1 := w') (v := .agg #[.string (rdOf ByteArray.empty y327 (ji8)), .string t331, .string (⟨#[]⟩ : ByteArray)]) (by rfl) rfl ?_ ?_
                        · go_simp
                          (try simp only [i64_w])
                          try rfl
                        refine hK.out _ _ ⟨v319, adz_v319, v324, adz_v324, v328, adz_v328, gb332, m3_, m13_, m20_, m27_, (by rw [ha.out]; exact putSel_upk 20 hb_ rfl rfl rfl), Q_BK317, Q_HB, Q_HO320, Q_HA_HO320, Q_HO325, Q_HA_HO325, Q_HO329, Q_HA_HO329, Q_BK332, Q_GW332, Q_GE332, Q_NB317_332, Q_NB332_317, fun h0_ => absurd ((hoff 28 (by kernel_rfl)).symm.trans h0_) (by decide), Q_X3_, Q_X13_, Q_X20_, Q_X27_⟩
                      refine steps_cons ?_ ?_
                      · rintro b a w' ⟨v319, adz_v319, v324, adz_v324, v328, adz_v328, gb332, m3_, m13_, m20_, m27_, ha, Q_BK317, Q_HB, Q_HO320, Q_HA_HO320, Q_HO325, Q_HA_HO325, Q_HO329, Q_HA_HO329, Q_BK332, Q_GW332, Q_GE332, Q_NB317_332, Q_NB332_317, Q_BK332_e28, Q_X3_, Q_X13_, Q_X20_, Q_X27_⟩ hb_ hon hoff
                        refine ⟨_, rfl, fun K hK => ?_⟩
                        have e12 : a.tmps[12]? = some (.agg #[.string (rdOf ByteArray.empty y318 (Go.bits .and .i64 a0 1)), .string t322]) := by rw [ha]; exact putSel_on (e := (8, 12, .agg #[.string (rdOf ByteArray.empty y318 (Go.bits .and .i64 a0 1)), .string t322])) 6 rfl rfl (hon 8 (by kernel_rfl)) rfl
                        have e18 : a.tmps[18]? = some (.string (rdOf ByteArray.empty y323 (ji5))) := by rw [ha]; exact putSel_on (e := (14, 18, .string (rdOf ByteArray.empty y323 (ji5)))) 11 rfl rfl (hon 14 (by kernel_rfl)) rfl
                        have e29 : a.tmps[29]? = some (.agg #[.string (rdOf ByteArray.empty y327 (ji8)), .string t331, .string (⟨#[]⟩ : ByteArray)]) := by rw [ha]; exact putSel_on (e := (25, 29, .agg #[.string (rdOf ByteArray.empty y327 (ji8)), .string t331, .string (⟨#[]⟩ : ByteArray)])) 20 rfl rfl (hon 25 (by kernel_rfl)) rfl
                        replace ha := Aside0.mk ha
                        have BK317 := Aside0.mk Q_BK317
                        have HB := Aside0.mk Q_HB
                        have HO320 := Aside0.mk (Q_HO320 (hon 0 (by kernel_rfl)))
                        have HA_HO320 := Aside0.mk (Q_HA_HO320 (hon 0 (by kernel_rfl)))
                        have HO325 := Aside0.mk (Q_HO325 (hon 9 (by kernel_rfl)))
                        have HA_HO325 := Aside0.mk (Q_HA_HO325 (hon 9 (by kernel_rfl)))
                        have HO329 := Aside0.mk (Q_HO329 (hon 15 (by kernel_rfl)))
                        have HA_HO329 := Aside0.mk (Q_HA_HO329 (hon 15 (by kernel_rfl)))
                        refine value_ (w1 := w') (v := .agg #[.string (rdOf ByteArray.empty y318 (Go.bits .and .i64 a0 1)), .string t322, .string (rdOf ByteArray.empty y323 (ji5)), .string (rdOf ByteArray.empty y327 (ji8)), .string t331, .string (⟨#[]⟩ : ByteArray)]) (by rfl) rfl ?_ ?_
                        · go_simp
                          (try simp only [i64_w])
                          try rfl
                        refine hK.out _ _ ⟨v319, adz_v319, v324, adz_v324, v328, adz_v328, gb332, m3_, m13_, m20_, m27_, (by rw [ha.out]; exact putSel_upk 21 hb_ rfl rfl rfl), Q_BK317, Q_HB, Q_HO320, Q_HA_HO320, Q_HO325, Q_HA_HO325, Q_HO329, Q_HA_HO329, Q_BK332, Q_GW332, Q_GE332, Q_NB317_332, Q_NB332_317, fun h0_ => absurd ((hoff 28 (by kernel_rfl)).symm.trans h0_) (by decide), Q_X3_, Q_X13_, Q_X20_, Q_X27_⟩
                      refine steps_cons ?_ ?_
                      · rintro b a w' ⟨v319, adz_v319, v324, adz_v324, v328, adz_v328, gb332, m3_, m13_, m20_, m27_, ha, Q_BK317, Q_HB, Q_HO320, Q_HA_HO320, Q_HO325, Q_HA_HO325, Q_HO329, Q_HA_HO329, Q_BK332, Q_GW332, Q_GE332, Q_NB317_332, Q_NB332_317, Q_BK332_e28, Q_X3_, Q_X13_, Q_X20_, Q_X27_⟩ hb_ hon hoff
                        refine ⟨_, rfl, fun K hK => ?_⟩
                        replace ha := Aside0.mk ha
                        have BK317 := Aside0.mk Q_BK317
                        have HB := Aside0.mk Q_HB
                        refine box_step ?hg (N := 3) ?hd (cs := #[.string (⟨#[]⟩ : ByteArray), .string (⟨#[]⟩ : ByteArray), .string (⟨#[]⟩ : ByteArray), .string (⟨#[]⟩ : ByteArray), .string (⟨#[]⟩ : ByteArray), .string (⟨#[]⟩ : ByteArray)]) (t := 29) ?hr ?_; (case hd => rfl); (case hg => rfl); (case hr => first | (go_simp; done) | (go_simp; rfl))
                        intro gb332 hg w18 hbox hb
                        have n0_ := Aside0.mk (blk_below (g := gb317) (o := .cells #[.string (⟨#[]⟩ : ByteArray), .string (⟨#[]⟩ : ByteArray), .string (⟨#[]⟩ : ByteArray), .string (⟨#[]⟩ : ByteArray), .string (⟨#[]⟩ : ByteArray), .string (⟨#[]⟩ : ByteArray)] 29 (0, 0)) (by (with_reducible repeat (first | refine blk_drewN ?_ _ | refine blk_drew ?_ | refine blk_alloc ?_ _)); exact BK317.out) hb)
                        have n1_ := Aside0.mk (below_step (by repeat (first | (with_reducible first | exact HB.out | apply below_alloc | apply pw_below_drewN | apply below_drew1 | refine below_set ?_ GE317.out) | exact HB.out)) hb)
                        have n2_ := Aside0.mk (hbox)
                        have n3_ := Aside0.mk ((by rw [hg]; exact (below_size (by repeat (first | (with_reducible first | exact HB.out | apply below_alloc | apply pw_below_drewN | apply below_drew1 | refine below_set ?_ GE317.out) | exact HB.out))) : w.heap.size ≤ gb332))
                        have n4_ := Aside0.mk ((by rw [hg]; exact (below_size (by repeat (first | (with_reducible first | exact HB.out | apply below_alloc | apply pw_below_drewN | apply below_drew1 | refine below_set ?_ GE317.out) | exact HB.out))) : w.heap.size ≤ gb332))
                        have n5_ := Aside0.mk ((by rw [hg]; exact Nat.ne_of_lt (blk_lt (g := gb317) (o := .cells #[.string (⟨#[]⟩ : ByteArray), .string (⟨#[]⟩ : ByteArray), .string (⟨#[]⟩ : ByteArray), .string (⟨#[]⟩ : ByteArray), .string (⟨#[]⟩ : ByteArray), .string (⟨#[]⟩ : ByteArray)] 29 (0, 0)) (by (with_reducible repeat (first | refine blk_drewN ?_ _ | refine blk_drew ?_ | refine blk_alloc ?_ _)); exact BK317.out)) : gb317 ≠ gb332))
                        have n6_ := Aside0.mk ((by rw [hg]; exact Nat.ne_of_gt (blk_lt (g := gb317) (o := .cells #[.string (⟨#[]⟩ : ByteArray), .string (⟨#[]⟩ : ByteArray), .string (⟨#[]⟩ : ByteArray), .string (⟨#[]⟩ : ByteArray), .string (⟨#[]⟩ : ByteArray), .string (⟨#[]⟩ : ByteArray)] 29 (0, 0)) (by (with_reducible repeat (first | refine blk_drewN ?_ _ | refine blk_drew ?_ | refine blk_alloc ?_ _)); exact BK317.out)) : gb332 ≠ gb317))
                        have z_HO320 := fun (h0_ : b 0 = true) => (show Kd.R Kd.string 9 w18 w.heap.size (fun _ => True) v319 y318 from by first | exact (Kd.R_below (by (with_reducible repeat (first | apply Kd.R_alloc | apply Kd.R_drewN | apply Kd.R_drew)); exact (Q_HO320 h0_)) hb) | exact Kd.R_mono (Kd.R_below (by (with_reducible repeat (first | apply Kd.R_alloc | apply Kd.R_drewN | apply Kd.R_drew)); exact (Q_HO320 h0_)) hb) (fun _ h_ => by first | trivial | exact h_ | exact h_.1))
                        have z_HO325 := fun (h0_ : b 9 = true) => (show Kd.R Kd.string 9 w18 w.heap.size (fun _ => True) v324 y323 from by first | exact (Kd.R_below (by (with_reducible repeat (first | apply Kd.R_alloc | apply Kd.R_drewN | apply Kd.R_drew)); exact (Q_HO325 h0_)) hb) | exact Kd.R_mono (Kd.R_below (by (with_reducible repeat (first | apply Kd.R_alloc | apply Kd.R_drewN | apply Kd.R_drew)); exact (Q_HO325 h0_)) hb) (fun _ h_ => by first | trivial | exact h_ | exact h_.1))
                        have z_HO329 := fun (h0_ : b 15 = true) => (show Kd.R Kd.string 9 w18 w.heap.size (fun _ => True) v328 y327 from by first | exact (Kd.R_below (by (with_reducible repeat (first | apply Kd.R_alloc | apply Kd.R_drewN | apply Kd.R_drew)); exact (Q_HO329 h0_)) hb) | exact Kd.R_mono (Kd.R_below (by (with_reducible repeat (first | apply Kd.R_alloc | apply Kd.R_drewN | apply Kd.R_drew)); exact (Q_HO329 h0_)) hb) (fun _ h_ => by first | trivial | exact h_ | exact h_.1))
                        clear BK317
                        clear HB
                        have BK317 := n0_
                        have HB := n1_
                        have BK332 := n2_
                        have GW332 := n3_
                        have GE332 := n4_
                        have NB317_332 := n5_
                        have NB332_317 := n6_
                        clear n0_ n1_ n2_ n3_ n4_ n5_ n6_
                        clear hb hbox hg
                        refine hK.out _ _ ⟨v319, adz_v319, v324, adz_v324, v328, adz_v328, gb332, m3_, m13_, m20_, (.pointer (some ⟨gb332, 0, none⟩)), (by rw [ha.out]; exact putSel_upk 22 hb_ rfl rfl rfl), (by (with_reducible repeat (first | refine blk_drewN ?_ _ | refine blk_drew ?_ | refine blk_alloc ?_ _)); exact BK317.out), (by repeat (first | (with_reducible first | exact HB.out | apply below_alloc | apply pw_below_drewN | apply below_drew1 | refine below_set ?_ GE317.out | refine below_set ?_ GE332.out) | exact HB.out)), z_HO320, Q_HA_HO320, z_HO325, Q_HA_HO325, z_HO329, Q_HA_HO329, fun _ _ => (by (with_reducible repeat (first | refine blk_drewN ?_ _ | refine blk_drew ?_ | refine blk_alloc ?_ _)); exact BK332.out), fun _ => GW332.out, fun _ => GE332.out, fun _ => NB317_332.out, fun _ => NB332_317.out, fun h0_ => absurd ((hoff 28 (by kernel_rfl)).symm.trans h0_) (by decide), Q_X3_, Q_X13_, Q_X20_, fun _ => rfl⟩
                      refine steps_cons ?_ ?_
                      · rintro b a w' ⟨v319, adz_v319, v324, adz_v324, v328, adz_v328, gb332, m3_, m13_, m20_, m27_, ha, Q_BK317, Q_HB, Q_HO320, Q_HA_HO320, Q_HO325, Q_HA_HO325, Q_HO329, Q_HA_HO329, Q_BK332, Q_GW332, Q_GE332, Q_NB317_332, Q_NB332_317, Q_BK332_e28, Q_X3_, Q_X13_, Q_X20_, Q_X27_⟩ hb_ hon hoff
                        refine ⟨_, rfl, fun K hK => ?_⟩
                        have e3 : a.tmps[3]? = some (m27_) := by rw [ha]; exact putSel_on (e := (27, 3, m27_)) 22 rfl rfl (hon 27 (by kernel_rfl)) rfl
                        rw [Q_X27_ (hon 27 (by kernel_rfl))] at e3
                        have e30 : a.tmps[30]? = some (.agg #[.string (rdOf ByteArray.empty y318 (Go.bits .and .i64 a0 1)), .string t322, .string (rdOf ByteArray.empty y323 (ji5)), .string (rdOf ByteArray.empty y327 (ji8)), .string t331, .string (⟨#[]⟩ : ByteArray)]) := by rw [ha]; exact putSel_on (e := (26, 30, .agg #[.string (rdOf ByteArray.empty y318 (Go.bits .and .i64 a0 1)), .string t322, .string (rdOf ByteArray.empty y323 (ji5)), .string (rdOf ByteArray.empty y327 (ji8)), .string t331, .string (⟨#[]⟩ : ByteArray)])) 21 rfl rfl (hon 26 (by kernel_rfl)) rfl
                        replace ha := Aside0.mk ha
                        have BK317 := Aside0.mk Q_BK317
                        have HB := Aside0.mk Q_HB
                        have HO320 := Aside0.mk (Q_HO320 (hon 0 (by kernel_rfl)))
                        have HA_HO320 := Aside0.mk (Q_HA_HO320 (hon 0 (by kernel_rfl)))
                        have HO325 := Aside0.mk (Q_HO325 (hon 9 (by kernel_rfl)))
                        have HA_HO325 := Aside0.mk (Q_HA_HO325 (hon 9 (by kernel_rfl)))
                        have HO329 := Aside0.mk (Q_HO329 (hon 15 (by kernel_rfl)))
                        have HA_HO329 := Aside0.mk (Q_HA_HO329 (hon 15 (by kernel_rfl)))
                        have BK332 := Aside0.mk (Q_BK332 (hon 27 (by kernel_rfl)) hb_)
                        have GW332 := Aside0.mk (Q_GW332 (hon 27 (by kernel_rfl)))
                        have GE332 := Aside0.mk (Q_GE332 (hon 27 (by kernel_rfl)))
                        have NB317_332 := Aside0.mk (Q_NB317_332 (hon 27 (by kernel_rfl)))
                        have NB332_317 := Aside0.mk (Q_NB332_317 (hon 27 (by kernel_rfl)))
                        obtain ⟨co31, eo31⟩ := HA_HO320.out
                        clear HA_HO320
                        subst eo31
                        obtain ⟨co32, eo32⟩ := HA_HO325.out
                        clear HA_HO325
                        subst eo32
                        obtain ⟨co33, eo33⟩ := HA_HO329.out
                        clear HA_HO329
                        subst eo33
                        have hs34 : w'.cell? ⟨gb332, 0, none⟩ = some (.string (⟨#[]⟩ : ByteArray)) := (blk_cell BK332.out 0).trans rfl
                        have hfs34 := blk_frozen BK332.out 0
                        have hns34_0 := NB317_332.out
                        have hms34_0 := NB332_317.out
                        have hs35 : w'.cell? ⟨gb332, 1, none⟩ = some (.string (⟨#[]⟩ : ByteArray)) := (blk_cell BK332.out 1).trans rfl
                        have hfs35 := blk_frozen BK332.out 1
                        have hns35_0 := NB317_332.out
                        have hms35_0 := NB332_317.out
                        have hs36 : w'.cell? ⟨gb332, 2, none⟩ = some (.string (⟨#[]⟩ : ByteArray)) := (blk_cell BK332.out 2).trans rfl
                        have hfs36 := blk_frozen BK332.out 2
                        have hns36_0 := NB317_332.out
                        have hms36_0 := NB332_317.out
                        have hs37 : w'.cell? ⟨gb332, 3, none⟩ = some (.string (⟨#[]⟩ : ByteArray)) := (blk_cell BK332.out 3).trans rfl
                        have hfs37 := blk_frozen BK332.out 3
                        have hns37_0 := NB317_332.out
                        have hms37_0 := NB332_317.out
                        have hs38 : w'.cell? ⟨gb332, 4, none⟩ = some (.string (⟨#[]⟩ : ByteArray)) := (blk_cell BK332.out 4).trans rfl
                        have hfs38 := blk_frozen BK332.out 4
                        have hns38_0 := NB317_332.out
                        have hms38_0 := NB332_317.out
                        have hs39 : w'.cell? ⟨gb332, 5, none⟩ = some (.string (⟨#[]⟩ : ByteArray)) := (blk_cell BK332.out 5).trans rfl
                        have hfs39 := blk_frozen BK332.out 5
                        have hns39_0 := NB317_332.out
                        have hms39_0 := NB332_317.out
                        refine skip_ (w1 := ?_) (by rfl) rfl ?_ ?_
                        rotate_left
                        · go_simp
                          rfl
                        refine hK.out _ _ ⟨.slice (some adz_v319) y318.length co31, adz_v319, .slice (some adz_v324) y323.length co32, adz_v324, .slice (some adz_v328) y327.length co33, adz_v328, gb332, m3_, m13_, m20_, m27_, (by rw [ha.out]; exact putSel_none (v := undef) rfl), (by (with_reducible repeat (first | refine blk_drewN ?_ _ | refine blk_drew ?_ | refine blk_alloc ?_ _)); refine blk_far ?_ NB317_332.out _; (with_reducible repeat (first | refine blk_drewN ?_ _ | refine blk_drew ?_ | refine blk_alloc ?_ _)); refine blk_far ?_ NB317_332.out _; (with_reducible repeat (first | refine blk_drewN ?_ _ | refine blk_drew ?_ | refine blk_alloc ?_ _)); refine blk_far ?_ NB317_332.out _; (with_reducible repeat (first | refine blk_drewN ?_ _ | refine blk_drew ?_ | refine blk_alloc ?_ _)); refine blk_far ?_ NB317_332.out _; (with_reducible repeat (first | refine blk_drewN ?_ _ | refine blk_drew ?_ | refine blk_alloc ?_ _)); refine blk_far ?_ NB317_332.out _; (with_reducible repeat (first | refine blk_drewN ?_ _ | refine blk_drew ?_ | refine blk_alloc ?_ _)); refine blk_far ?_ NB317_332.out _; (with_reducible repeat (first | refine blk_drewN ?_ _ | refine blk_drew ?_ | refine blk_alloc ?_ _)); exact BK317.out), (by repeat (first | (with_reducible first | exact HB.out | apply below_alloc | apply pw_below_drewN | apply below_drew1 | refine below_set ?_ GE317.out | refine below_set ?_ GE332.out) | exact HB.out)), fun _ => (by (with_reducible repeat (first | apply Kd.R_alloc | apply Kd.R_drewN | apply Kd.R_drew)); exact Kd.R_mono (Kd.R_far (p := ⟨gb332, 5, none⟩) (Kd.R_far (p := ⟨gb332, 4, none⟩) (Kd.R_far (p := ⟨gb332, 3, none⟩) (Kd.R_far (p := ⟨gb332, 2, none⟩) (Kd.R_far (p := ⟨gb332, 1, none⟩) (Kd.R_far (p := ⟨gb332, 0, none⟩) (Kd.R_types HO320.out BK332.out (by decide)) (fun _ hk => hk.2) (.string (rdOf ByteArray.empty y318 (Go.bits .and .i64 a0 1)))) (fun _ hk => hk.2) (.string t322)) (fun _ hk => hk.2) (.string (rdOf ByteArray.empty y323 (ji5)))) (fun _ hk => hk.2) (.string (rdOf ByteArray.empty y327 (ji8)))) (fun _ hk => hk.2) (.string t331)) (fun _ hk => hk.2) (.string (⟨#[]⟩ : ByteArray))) (fun _ hk => by first | exact ⟨hk.1.1, hk.1.2⟩ | trivial)), fun _ => ⟨_, rfl⟩, fun _ => (by (with_reducible repeat (first | apply Kd.R_alloc | apply Kd.R_drewN | apply Kd.R_drew)); exact Kd.R_mono (Kd.R_far (p := ⟨gb332, 5, none⟩) (Kd.R_far (p := ⟨gb332, 4, none⟩) (Kd.R_far (p := ⟨gb332, 3, none⟩) (Kd.R_far (p := ⟨gb332, 2, none⟩) (Kd.R_far (p := ⟨gb332, 1, none⟩) (Kd.R_far (p := ⟨gb332, 0, none⟩) (Kd.R_types HO325.out BK332.out (by decide)) (fun _ hk => hk.2) (.string (rdOf ByteArray.empty y318 (Go.bits .and .i64 a0 1)))) (fun _ hk => hk.2) (.string t322)) (fun _ hk => hk.2) (.string (rdOf ByteArray.empty y323 (ji5)))) (fun _ hk => hk.2) (.string (rdOf ByteArray.empty y327 (ji8)))) (fun _ hk => hk.2) (.string t331)) (fun _ hk => hk.2) (.string (⟨#[]⟩ : ByteArray))) (fun _ hk => by first | exact ⟨hk.1.1, hk.1.2⟩ | trivial)), fun _ => ⟨_, rfl⟩, fun _ => (by (with_reducible repeat (first | apply Kd.R_alloc | apply Kd.R_drewN | apply Kd.R_drew)); exact Kd.R_mono (Kd.R_far (p := ⟨gb332, 5, none⟩) (Kd.R_far (p := ⟨gb332, 4, none⟩) (Kd.R_far (p := ⟨gb332, 3, none⟩) (Kd.R_far (p := ⟨gb332, 2, none⟩) (Kd.R_far (p := ⟨gb332, 1, none⟩) (Kd.R_far (p := ⟨gb332, 0, none⟩) (Kd.R_types HO329.out BK332.out (by decide)) (fun _ hk => hk.2) (.string (rdOf ByteArray.empty y318 (Go.bits .and .i64 a0 1)))) (fun _ hk => hk.2) (.string t322)) (fun _ hk => hk.2) (.string (rdOf ByteArray.empty y323 (ji5)))) (fun _ hk => hk.2) (.string (rdOf ByteArray.empty y327 (ji8)))) (fun _ hk => hk.2) (.string t331)) (fun _ hk => hk.2) (.string (⟨#[]⟩ : ByteArray))) (fun _ hk => by first | exact ⟨hk.1.1, hk.1.2⟩ | trivial)), fun _ => ⟨_, rfl⟩, fun _ h1_ => absurd ((up_self b 28).symm.trans h1_) (by decide), fun _ => GW332.out, fun _ => GE332.out, fun _ => NB317_332.out, fun _ => NB332_317.out, fun _ => (by (with_reducible repeat (first | refine blk_drewN ?_ _ | refine blk_drew ?_ | refine blk_alloc ?_ _)); refine blk_put (cs := #[.string (rdOf ByteArray.empty y318 (Go.bits .and .i64 a0 1)), .string t322, .string (rdOf ByteArray.empty y323 (ji5)), .string (rdOf ByteArray.empty y327 (ji8)), .string t331, .string (⟨#[]⟩ : ByteArray)]) ?_ 5 _ rfl; (with_reducible repeat (first | refine blk_drewN ?_ _ | refine blk_drew ?_ | refine blk_alloc ?_ _)); refine blk_put (cs := #[.string (rdOf ByteArray.empty y318 (Go.bits .and .i64 a0 1)), .string t322, .string (rdOf ByteArray.empty y323 (ji5)), .string (rdOf ByteArray.empty y327 (ji8)), .string (⟨#[]⟩ : ByteArray), .string (⟨#[]⟩ : ByteArray)]) ?_ 4 _ rfl; (with_reducible repeat (first | refine blk_drewN ?_ _ | refine blk_drew ?_ | refine blk_alloc ?_ _)); refine blk_put (cs := #[.string (rdOf ByteArray.empty y318 (Go.bits .and .i64 a0 1)), .string t322, .string (rdOf ByteArray.empty y323 (ji5)), .string (⟨#[]⟩ : ByteArray), .string (⟨#[]⟩ : ByteArray), .string (⟨#[]⟩ : ByteArray)]) ?_ 3 _ rfl; (with_reducible repeat (first | refine blk_drewN ?_ _ | refine blk_drew ?_ | refine blk_alloc ?_ _)); refine blk_put (cs := #[.string (rdOf ByteArray.empty y318 (Go.bits .and .i64 a0 1)), .string t322, .string (⟨#[]⟩ : ByteArray), .string (⟨#[]⟩ : ByteArray), .string (⟨#[]⟩ : ByteArray), .string (⟨#[]⟩ : ByteArray)]) ?_ 2 _ rfl; (with_reducible repeat (first | refine blk_drewN ?_ _ | refine blk_drew ?_ | refine blk_alloc ?_ _)); refine blk_put (cs := #[.string (rdOf ByteArray.empty y318 (Go.bits .and .i64 a0 1)), .string (⟨#[]⟩ : ByteArray), .string (⟨#[]⟩ : ByteArray), .string (⟨#[]⟩ : ByteArray), .string (⟨#[]⟩ : ByteArray), .string (⟨#[]⟩ : ByteArray)]) ?_ 1 _ rfl; (with_reducible repeat (first | refine blk_drewN ?_ _ | refine blk_drew ?_ | refine blk_alloc ?_ _)); refine blk_put (cs := #[.string (⟨#[]⟩ : ByteArray), .string (⟨#[]⟩ : ByteArray), .string (⟨#[]⟩ : ByteArray), .string (⟨#[]⟩ : ByteArray), .string (⟨#[]⟩ : ByteArray), .string (⟨#[]⟩ : ByteArray)]) ?_ 0 _ rfl; (with_reducible repeat (first | refine blk_drewN ?_ _ | refine blk_drew ?_ | refine blk_alloc ?_ _)); exact BK332.out), Q_X3_, Q_X13_, Q_X20_, Q_X27_⟩
                      exact steps_nil
                    rintro b a w36 hall ⟨v319, adz_v319, v324, adz_v324, v328, adz_v328, gb332, m3_, m13_, m20_, m27_, ha, Q_BK317, Q_HB, Q_HO320, Q_HA_HO320, Q_HO325, Q_HA_HO325, Q_HO329, Q_HA_HO329, Q_BK332, Q_GW332, Q_GE332, Q_NB317_332, Q_NB332_317, Q_BK332_e28, Q_X3_, Q_X13_, Q_X20_, Q_X27_⟩
                    clear BK317 HB
                    have hb0_ := hall 0 (by kernel_rfl)
                    have hb2_ := hall 2 (by kernel_rfl)
                    have hb3_ := hall 3 (by kernel_rfl)
                    have hb4_ := hall 4 (by kernel_rfl)
                    have hb6_ := hall 6 (by kernel_rfl)
                    have hb7_ := hall 7 (by kernel_rfl)
                    have hb8_ := hall 8 (by kernel_rfl)
                    have hb9_ := hall 9 (by kernel_rfl)
                    have hb11_ := hall 11 (by kernel_rfl)
                    have hb12_ := hall 12 (by kernel_rfl)
                    have hb13_ := hall 13 (by kernel_rfl)
                    have hb14_ := hall 14 (by kernel_rfl)
                    have hb15_ := hall 15 (by kernel_rfl)
                    have hb17_ := hall 17 (by kernel_rfl)
                    have hb18_ := hall 18 (by kernel_rfl)
                    have hb19_ := hall 19 (by kernel_rfl)
                    have hb20_ := hall 20 (by kernel_rfl)
                    have hb21_ := hall 21 (by kernel_rfl)
                    have hb23_ := hall 23 (by kernel_rfl)
                    have hb24_ := hall 24 (by kernel_rfl)
                    have hb25_ := hall 25 (by kernel_rfl)
                    have hb26_ := hall 26 (by kernel_rfl)
                    have hb27_ := hall 27 (by kernel_rfl)
                    have hb28_ := hall 28 (by kernel_rfl)
                    subst ha
                    obtain rfl := Q_X3_ hb3_
                    obtain rfl := Q_X13_ hb13_
                    obtain rfl := Q_X20_ hb20_
                    obtain rfl := Q_X27_ hb27_
                    simp only [putSel, hb0_, hb2_, hb3_, hb4_, hb6_, hb7_, hb8_, hb9_, hb11_, hb12_, hb13_, hb14_, hb15_, hb17_, hb18_, hb19_, hb20_, hb21_, hb23_, hb24_, hb25_, hb26_, hb27_, hb28_, if_true, Act.put, List.setIfInBounds_toArray, List.set_cons_zero, List.set_cons_succ]
                    have BK317 := Aside0.mk Q_BK317
                    clear Q_BK317
                    have HB := Aside0.mk Q_HB
                    clear Q_HB
                    have HO320 := Aside0.mk (Q_HO320 hb0_)
                    clear Q_HO320
                    have HA_HO320 := Aside0.mk (Q_HA_HO320 hb0_)
                    clear Q_HA_HO320
                    have HO325 := Aside0.mk (Q_HO325 hb9_)
                    clear Q_HO325
                    have HA_HO325 := Aside0.mk (Q_HA_HO325 hb9_)
                    clear Q_HA_HO325
                    have HO329 := Aside0.mk (Q_HO329 hb15_)
                    clear Q_HO329
                    have HA_HO329 := Aside0.mk (Q_HA_HO329 hb15_)
                    clear Q_HA_HO329
                    clear Q_BK332
                    have GW332 := Aside0.mk (Q_GW332 hb27_)
                    clear Q_GW332
                    have GE332 := Aside0.mk (Q_GE332 hb27_)
                    clear Q_GE332
                    have NB317_332 := Aside0.mk (Q_NB317_332 hb27_)
                    clear Q_NB317_332
                    have NB332_317 := Aside0.mk (Q_NB332_317 hb27_)
                    clear Q_NB332_317
                    have BK332 := Aside0.mk (Q_BK332_e28 hb28_)
                    clear Q_BK332_e28
                    clear hall hb0_ hb2_ hb3_ hb4_ hb6_ hb7_ hb8_ hb9_ hb11_ hb12_ hb13_ hb14_ hb15_ hb17_ hb18_ hb19_ hb20_ hb21_ hb23_ hb24_ hb25_ hb26_ hb27_ hb28_
                    obtain ⟨co37, eo37⟩ := HA_HO320.out
                    clear HA_HO320
                    subst eo37
                    obtain ⟨co38, eo38⟩ := HA_HO325.out
                    clear HA_HO325
                    subst eo38
                    obtain ⟨co39, eo39⟩ := HA_HO329.out
                    clear HA_HO329
                    subst eo39
                    try go_wp2_with (first | ((with_reducible refine gate_dst (N := 35) rfl ?_); refine Kd.R_lit Kd.string _ 9 ?hg (N := 35) ?hd (xs := ([(⟨#[114]⟩ : ByteArray), (⟨#[115]⟩ : ByteArray)] : List ByteArray)) (inner := [.string (⟨#[114]⟩ : ByteArray), .string (⟨#[115]⟩ : ByteArray)]) (ok := fun _ => True) (okp := fun _ => True) ?hr ?hp (fun _ hk => hk) trivial (Below.refl _ _) (Nat.le_refl _) (by simp) ?_; (case hd => rfl); (case hg => rfl); (case hr => first | (go_simp; done) | (go_simp; rfl)); (case hp => exact (Reps.one (show Kd.M Kd.string _ _ _ (⟨#[114]⟩ : ByteArray) [.string (⟨#[114]⟩ : ByteArray)] from rfl) (Reps.one (show Kd.M Kd.string _ _ _ (⟨#[115]⟩ : ByteArray) [.string (⟨#[115]⟩ : ByteArray)] from rfl) (Reps.none _ _)))); intro v334 w40 ho41 hb hg_ hnew_; clear hg_ hnew_; (first | rw [← Ny333.out] at ho41 | (simp only [Int.reduceToNat] at ho41; rw [← Ny333.out] at ho41)); have n0_ := Aside0.mk (Kd.R_elder' (by (with_reducible repeat (first | apply Kd.R_alloc | apply Kd.R_drewN | apply Kd.R_drew)); exact HO320.out) (Kd.R_base ho41) hb); have n1_ := Aside0.mk (Kd.R_elder' (by (with_reducible repeat (first | apply Kd.R_alloc | apply Kd.R_drewN | apply Kd.R_drew)); exact HO325.out) (Kd.R_base ho41) hb); have n2_ := Aside0.mk (Kd.R_elder' (by (with_reducible repeat (first | apply Kd.R_alloc | apply Kd.R_drewN | apply Kd.R_drew)); exact HO329.out) (Kd.R_base ho41) hb); have n3_ := Aside0.mk (Kd.R_lower (Kd.R_new' (Kd.R_new' (Kd.R_new' ho41 (Kd.R_lt (by (with_reducible repeat (first | apply Kd.R_alloc | apply Kd.R_drewN | apply Kd.R_drew)); exact HO320.out))) (Kd.R_lt (by (with_reducible repeat (first | apply Kd.R_alloc | apply Kd.R_drewN | apply Kd.R_drew)); exact HO325.out))) (Kd.R_lt (by (with_reducible repeat (first | apply Kd.R_alloc | apply Kd.R_drewN | apply Kd.R_drew)); exact HO329.out))) (below_size (by repeat (first | (with_reducible first | exact HB.out | apply below_alloc | apply pw_below_drewN | apply below_drew1 | refine below_set ?_ GE317.out | refine below_set ?_ GE332.out) | exact HB.out)))); have n4_ := Aside0.mk (blk_below (g := gb317) (o := .cells #[.string (⟨#[]⟩ : ByteArray), .string (⟨#[]⟩ : ByteArray), .string (⟨#[]⟩ : ByteArray), .string (⟨#[]⟩ : ByteArray), .string (⟨#[]⟩ : ByteArray), .string (⟨#[]⟩ : ByteArray)] 29 (0, 0)) (by (with_reducible repeat (first | refine blk_drewN ?_ _ | refine blk_drew ?_ | refine blk_alloc ?_ _)); exact BK317.out) hb); have n5_ := Aside0.mk (blk_below (g := gb332) (o := .cells #[.string (rdOf ByteArray.empty y318 (Go.bits .and .i64 a0 1)), .string t322, .string (rdOf ByteArray.empty y323 (ji5)), .string (rdOf ByteArray.empty y327 (ji8)), .string t331, .string (⟨#[]⟩ : ByteArray)] 29 (0, 0)) (by (with_reducible repeat (first | refine blk_drewN ?_ _ | refine blk_drew ?_ | refine blk_alloc ?_ _)); exact BK332.out) hb); have n6_ := Aside0.mk (below_step (by repeat (first | (with_reducible first | exact HB.out | apply below_alloc | apply pw_below_drewN | apply below_drew1 | refine below_set ?_ GE317.out | refine below_set ?_ GE332.out) | exact HB.out)) hb); clear HO320; clear HO325; clear HO329; clear BK317; clear BK332; clear HB; have HO320 := n0_; have HO325 := n1_; have HO329 := n2_; have HO335 := n3_; have BK317 := n4_; have BK332 := n5_; have HB := n6_; clear n0_ n1_ n2_ n3_ n4_ n5_ n6_; clear hb ho41; obtain ⟨Ao42, co42, eo42⟩ := Kd.R_slice HO335.out; subst eo42; have p336 : 0 ≤ ((ji13) : Int) := of_decide_eq_true (by first | (with_reducible assumption) | assumption); have q336 : (ji13) < (y333.length : Int) := of_decide_eq_true (by first | (with_reducible assumption) | assumption); obtain ⟨ad336, e336, hx336_0⟩ := Kd.at_string (Kd.R_reads' HO335.out).2.2 (ji13) p336 q336; cases e336; replace p336 := eq_true p336; replace q336 := eq_true q336; have hnb43 := NB332_317.out; have hnc43 := NB317_332.out; have hcz44_0 : w40.cell? ⟨gb332, 0, none⟩ = some (.string (rdOf ByteArray.empty y318 (Go.bits .and .i64 a0 1))) := (blk_cell BK332.out 0).trans rfl; have hcz44_1 : w40.cell? ⟨gb332, 1, none⟩ = some (.string t322) := (blk_cell BK332.out 1).trans rfl; have hcz44_2 : w40.cell? ⟨gb332, 2, none⟩ = some (.string (rdOf ByteArray.empty y323 (ji5))) := (blk_cell BK332.out 2).trans rfl; have hcz44_3 : w40.cell? ⟨gb332, 3, none⟩ = some (.string (rdOf ByteArray.empty y327 (ji8))) := (blk_cell BK332.out 3).trans rfl; have hcz44_4 : w40.cell? ⟨gb332, 4, none⟩ = some (.string t331) := (blk_cell BK332.out 4).trans rfl; have hcz44_5 : w40.cell? ⟨gb332, 5, none⟩ = some (.string (⟨#[]⟩ : ByteArray)) := (blk_cell BK332.out 5).trans rfl; have hfz44_0 := blk_frozen BK332.out 0; have hfz44_1 := blk_frozen BK332.out 1; have hfz44_2 := blk_frozen BK332.out 2; have hfz44_3 := blk_frozen BK332.out 3; have hfz44_4 := blk_frozen BK332.out 4; have hfz44_5 := blk_frozen BK332.out 5; have hcz45_0 : w40.cell? ⟨gb317, 0, none⟩ = some (.string (⟨#[]⟩ : ByteArray)) := (blk_cell BK317.out 0).trans rfl; have hcz45_1 : w40.cell? ⟨gb317, 1, none⟩ = some (.string (⟨#[]⟩ : ByteArray)) := (blk_cell BK317.out 1).trans rfl; have hcz45_2 : w40.cell? ⟨gb317, 2, none⟩ = some (.string (⟨#[]⟩ : ByteArray)) := (blk_cell BK317.out 2).trans rfl; have hcz45_3 : w40.cell? ⟨gb317, 3, none⟩ = some (.string (⟨#[]⟩ : ByteArray)) := (blk_cell BK317.out 3).trans rfl; have hcz45_4 : w40.cell? ⟨gb317, 4, none⟩ = some (.string (⟨#[]⟩ : ByteArray)) := (blk_cell BK317.out 4).trans rfl; have hcz45_5 : w40.cell? ⟨gb317, 5, none⟩ = some (.string (⟨#[]⟩ : ByteArray)) := (blk_cell BK317.out 5).trans rfl; have hfz45_0 := blk_frozen BK317.out 0; have hfz45_1 := blk_frozen BK317.out 1; have hfz45_2 := blk_frozen BK317.out 2; have hfz45_3 := blk_frozen BK317.out 3; have hfz45_4 := blk_frozen BK317.out 4; have hfz45_5 := blk_frozen BK317.out 5))
                    refine bodyPost_ret (results_cell_row rfl _ _ gb317 29 #[.string (rdOf ByteArray.empty y318 (Go.bits .and .i64 a0 1)), .string t322, .string (rdOf ByteArray.empty y323 (ji5)), .string (rdOf ByteArray.empty y327 (ji8)), .string t331, .string (rdOf ByteArray.empty y333 (ji13))] (0, 0) _ rfl (by (with_reducible repeat (first | refine blk_drewN ?_ _ | refine blk_drew ?_ | refine blk_alloc ?_ _)); refine blk_put (cs := #[.string (rdOf ByteArray.empty y318 (Go.bits .and .i64 a0 1)), .string t322, .string (rdOf ByteArray.empty y323 (ji5)), .string (rdOf ByteArray.empty y327 (ji8)), .string t331, .string (⟨#[]⟩ : ByteArray)]) ?_ 5 _ rfl; (with_reducible repeat (first | refine blk_drewN ?_ _ | refine blk_drew ?_ | refine blk_alloc ?_ _)); refine blk_put (cs := #[.string (rdOf ByteArray.empty y318 (Go.bits .and .i64 a0 1)), .string t322, .string (rdOf ByteArray.empty y323 (ji5)), .string (rdOf ByteArray.empty y327 (ji8)), .string (⟨#[]⟩ : ByteArray), .string (⟨#[]⟩ : ByteArray)]) ?_ 4 _ rfl; (with_reducible repeat (first | refine blk_drewN ?_ _ | refine blk_drew ?_ | refine blk_alloc ?_ _)); refine blk_put (cs := #[.string (rdOf ByteArray.empty y318 (Go.bits .and .i64 a0 1)), .string t322, .string (rdOf ByteArray.empty y323 (ji5)), .string (⟨#[]⟩ : ByteArray), .string (⟨#[]⟩ : ByteArray), .string (⟨#[]⟩ : ByteArray)]) ?_ 3 _ rfl; (with_reducible repeat (first | refine blk_drewN ?_ _ | refine blk_drew ?_ | refine blk_alloc ?_ _)); refine blk_put (cs := #[.string (rdOf ByteArray.empty y318 (Go.bits .and .i64 a0 1)), .string t322, .string (⟨#[]⟩ : ByteArray), .string (⟨#[]⟩ : ByteArray), .string (⟨#[]⟩ : ByteArray), .string (⟨#[]⟩ : ByteArray)]) ?_ 2 _ rfl; (with_reducible repeat (first | refine blk_drewN ?_ _ | refine blk_drew ?_ | refine blk_alloc ?_ _)); refine blk_put (cs := #[.string (rdOf ByteArray.empty y318 (Go.bits .and .i64 a0 1)), .string (⟨#[]⟩ : ByteArray), .string (⟨#[]⟩ : ByteArray), .string (⟨#[]⟩ : ByteArray), .string (⟨#[]⟩ : ByteArray), .string (⟨#[]⟩ : ByteArray)]) ?_ 1 _ rfl; (with_reducible repeat (first | refine blk_drewN ?_ _ | refine blk_drew ?_ | refine blk_alloc ?_ _)); refine blk_put (cs := #[.string (⟨#[]⟩ : ByteArray), .string (⟨#[]⟩ : ByteArray), .string (⟨#[]⟩ : ByteArray), .string (⟨#[]⟩ : ByteArray), .string (⟨#[]⟩ : ByteArray), .string (⟨#[]⟩ : ByteArray)]) ?_ 0 _ rfl; (with_reducible repeat (first | refine blk_drewN ?_ _ | refine blk_drew ?_ | refine blk_alloc ?_ _)); refine blk_far ?_ NB317_332.out _; (with_reducible repeat (first | refine blk_drewN ?_ _ | refine blk_drew ?_ | refine blk_alloc ?_ _)); exact BK317.out) Try.underlying29 rfl (by kernel_rfl)) rfl ?_
                    exact ⟨by first | rfl | (simp [errW_none, errW_some] <;> rfl) | (simp only [← hji5, ← hji8, ← hji13]; first | rfl | (simp [errW_none, errW_some] <;> rfl)) | (simp [*, errW_none, errW_some] <;> rfl), by repeat (first | (with_reducible first | exact HB.out | apply below_alloc | apply pw_below_drewN | apply below_drew1 | refine below_set ?_ GE317.out | refine below_set ?_ GE332.out) | exact HB.out)⟩
                  · rw [if_neg c15] at H
                    exact absurd H (by simp)
                · rw [if_neg c14] at H
                  exact absurd H (by simp)
              · rw [if_neg c12] at H
                have c12b0 : ((Go.bits .and .i64 (a0 / 65536) 3) == 0) = false := beq_eq_false_iff_ne.mpr c12
                have c12b1 : ((Go.bits .and .i64 (a0 / 65536) 3) != 0) = true := bne_iff_ne.mpr c12
                simp only [Option.some.injEq, Prod.mk.injEq] at H
                obtain ⟨rfl, rfl, rfl, rfl, rfl, rfl⟩ := H
                go_enter Try.func23, Try.ntmps23
                try go_wp2_with (first | ((with_reducible refine gate_dst (N := 2) rfl ?_); refine box_event ?hg (N := 2) ?hd (cs := #[.string (⟨#[]⟩ : ByteArray), .string (⟨#[]⟩ : ByteArray), .string (⟨#[]⟩ : ByteArray), .string (⟨#[]⟩ : ByteArray), .string (⟨#[]⟩ : ByteArray), .string (⟨#[]⟩ : ByteArray)]) (t := 29) ?hr ?_; (case hd => rfl); (case hg => rfl); (case hr => first | (go_simp; done) | (go_simp; rfl)); intro gb317 hg w46 hbox hb; have n0_ := Aside0.mk (below_step (by repeat (first | (with_reducible first | exact HB.out | apply below_alloc | apply pw_below_drewN | apply below_drew1) | exact HB.out)) hb); have n1_ := Aside0.mk (hbox); have n2_ := Aside0.mk ((by rw [hg]; exact (below_size (by repeat (first | (with_reducible first | exact HB.out | apply below_alloc | apply pw_below_drewN | apply below_drew1) | exact HB.out))) : w.heap.size ≤ gb317)); have n3_ := Aside0.mk ((by rw [hg]; exact (below_size (by repeat (first | (with_reducible first | exact HB.out | apply below_alloc | apply pw_below_drewN | apply below_drew1) | exact HB.out))) : w.heap.size ≤ gb317)); clear HB; have HB := n0_; have BK317 := n1_; have GW317 := n2_; have GE317 := n3_; clear n0_ n1_ n2_ n3_; clear hb hbox hg))
                have pi321 : (0 ≤ ((Go.bits .and .i64 a0 1) : Int)) = True := eq_true (of_decide_eq_true (by first | (with_reducible assumption) | assumption))
                have qi321 : ((Go.bits .and .i64 a0 1) < (y318.length : Int)) = True := eq_true (of_decide_eq_true (by first | (with_reducible assumption) | assumption))
                have pi326 : (0 ≤ ((ji5) : Int)) = True := eq_true (of_decide_eq_true (by first | (with_reducible assumption) | assumption))
                have qi326 : ((ji5) < (y323.length : Int)) = True := eq_true (of_decide_eq_true (by first | (with_reducible assumption) | assumption))
                have pi330 : (0 ≤ ((ji8) : Int)) = True := eq_true (of_decide_eq_true (by first | (with_reducible assumption) | assumption))
                have qi330 : ((ji8) < (y327.length : Int)) = True := eq_true (of_decide_eq_true (by first | (with_reducible assumption) | assumption))
                have n0_ := Aside0.mk (blk_drew BK317.out)
                have n1_ := Aside0.mk (below_drew1 HB.out)
                clear BK317
                clear HB
                have BK317 := n0_
                have HB := n1_
                clear n0_ n1_
                refine start_ (n := 29) (S := fun w' => True) (ds := []) #[false, false, false, false, false, false, false, false, false, false, false, false, false, false, false, false, false, false, false, false, false, false, false, false, false, false, false, false, false] (by kernel_rfl) rfl rfl trivial (fun hHeld => ?_); refine with_tabW entaillaw2_Tame.tab1 entaillaw2_Tame.bits1 (fun HT_ HW_ => ?_)
                generalize w46.drew = w47 at BK317 HB hHeld ⊢
                refine pure_ (i := 1) (N := some 5) (v := ?_) (a' := ?_) #[false, true, false, false, false, false, false, false, false, false, false, false, false, false, false, false, false, false, false, false, false, false, false, false, false, false, false, false, false] rfl rfl (any_of HT_.out (by kernel_rfl)) (fun _ _ _ h => h) (Or.inl ⟨by rfl, ?_⟩) ?_ ?_
                rotate_left
                · intro w'
                  go_simp
                  with_reducible rfl
                rotate_left
                · simp only [Act.put, List.setIfInBounds_toArray, List.set_cons_zero, List.set_cons_succ, i64_w, i32_w]
                  rfl
                refine pure_ (i := 5) (N := some 9) (v := ?_) (a' := ?_) #[false, true, false, false, false, true, false, false, false, false, false, false, false, false, false, false, false, false, false, false, false, false, false, false, false, false, false, false, false] rfl rfl (any_of HT_.out (by kernel_rfl)) (fun _ _ _ h => h) (Or.inl ⟨by rfl, ?_⟩) ?_ ?_
                rotate_left
                · intro w'
                  go_simp
                  with_reducible rfl
                rotate_left
                · simp only [Act.put, List.setIfInBounds_toArray, List.set_cons_zero, List.set_cons_succ, i64_w, i32_w]
                  rfl
                refine pure_ (i := 10) (N := some 14) (v := ?_) (a' := ?_) #[false, true, false, false, false, true, false, false, false, false, true, false, false, false, false, false, false, false, false, false, false, false, false, false, false, false, false, false, false] rfl rfl (any_of HT_.out (by kernel_rfl)) (fun _ _ _ h => h) (Or.inl ⟨by rfl, ?_⟩) ?_ ?_
                rotate_left
                · intro w'
                  go_simp
                  with_reducible rfl
                rotate_left
                · simp only [Act.put, List.setIfInBounds_toArray, List.set_cons_zero, List.set_cons_succ, i64_w, i32_w]
                  rfl
                refine pure_ (i := 16) (N := some 20) (v := ?_) (a' := ?_) #[false, true, false, false, false, true, false, false, false, false, true, false, false, false, false, false, true, false, false, false, false, false, false, false, false, false, false, false, false] rfl rfl (any_of HT_.out (by kernel_rfl)) (fun _ _ _ h => h) (Or.inl ⟨by rfl, ?_⟩) ?_ ?_
                rotate_left
                · intro w'
                  go_simp
                  with_reducible rfl
                rotate_left
                · simp only [Act.put, List.setIfInBounds_toArray, List.set_cons_zero, List.set_cons_succ, i64_w, i32_w]
                  rfl
                refine pure_ (i := 22) (N := some 26) (v := ?_) (a' := ?_) #[false, true, false, false, false, true, false, false, false, false, true, false, false, false, false, false, true, false, false, false, false, false, true, false, false, false, false, false, false] rfl rfl (any_of HT_.out (by kernel_rfl)) (fun _ _ _ h => h) (Or.inl ⟨by rfl, ?_⟩) ?_ ?_
                rotate_left
                · intro w'
                  go_simp
                  with_reducible rfl
                rotate_left
                · simp only [Act.put, List.setIfInBounds_toArray, List.set_cons_zero, List.set_cons_succ, i64_w, i32_w]
                  rfl
                refine inv_at [0, 2, 3, 4, 6, 7, 8, 9, 11, 12, 13, 14, 15, 17, 18, 19, 20, 21, 23, 24, 25, 26, 27, 28] (fun a0_ b a w' => ∃ (v319 : Value) (adz_v319 : Addr) (v324 : Value) (adz_v324 : Addr) (v328 : Value) (adz_v328 : Addr) (gb332 : Nat) (m3_ : Value) (m13_ : Value) (m20_ : Value) (m27_ : Value), a = putSel a0_ b [(0, 4, v319), (2, 6, .int .i64 (Go.bits .and .i64 a0 1)), (3, 7, m3_), (4, 8, .string (rdOf ByteArray.empty y318 (Go.bits .and .i64 a0 1))), (6, 10, .int .i64 (a0 / 2)), (7, 11, .string t322), (8, 12, .agg #[.string (rdOf ByteArray.empty y318 (Go.bits .and .i64 a0 1)), .string t322]), (9, 13, v324), (11, 15, .int .i64 (a0 / 16)), (12, 16, .int .i64 ji5), (13, 17, m13_), (14, 18, .string (rdOf ByteArray.empty y323 (ji5))), (15, 19, v328), (17, 21, .int .i64 (a0 / 32)), (18, 22, .int .i64 (Go.bits .and .i64 (a0 / 32) 255)), (19, 23, .int .i64 ji8), (20, 24, m20_), (21, 25, .string (rdOf ByteArray.empty y327 (ji8))), (23, 27, .int .i64 (a0 / 8192)), (24, 28, .string t331), (25, 29, .agg #[.string (rdOf ByteArray.empty y327 (ji8)), .string t331, .string (⟨#[]⟩ : ByteArray)]), (26, 30, .agg #[.string (rdOf ByteArray.empty y318 (Go.bits .and .i64 a0 1)), .string t322, .string (rdOf ByteArray.empty y323 (ji5)), .string (rdOf ByteArray.empty y327 (ji8)), .string t331, .string (⟨#[]⟩ : ByteArray)]), (27, 3, m27_)] ∧ (w'.heap[gb317]? = some (.cells #[.string (⟨#[]⟩ : ByteArray), .string (⟨#[]⟩ : ByteArray), .string (⟨#[]⟩ : ByteArray), .string (⟨#[]⟩ : ByteArray), .string (⟨#[]⟩ : ByteArray), .string (⟨#[]⟩ : ByteArray)] 29 (0, 0))) ∧ (Below w.heap.size w w') ∧ (b 0 = true → Kd.R Kd.string 9 w' w.heap.size (fun _ => True) v319 y318) ∧ (b 0 = true → ∃ c_, (v319 : Value) = .slice (some adz_v319) y318.length c_) ∧ (b 9 = true → Kd.R Kd.string 9 w' w.heap.size (fun _ => True) v324 y323) ∧ (b 9 = true → ∃ c_, (v324 : Value) = .slice (some adz_v324) y323.length c_) ∧ (b 15 = true → Kd.R Kd.string 9 w' w.heap.size (fun _ => True) v328 y327) ∧ (b 15 = true → ∃ c_, (v328 : Value) = .slice (some adz_v328) y327.length c_) ∧ (b 27 = true → b 28 = false → w'.heap[gb332]? = some (.cells #[.string (⟨#[]⟩ : ByteArray), .string (⟨#[]⟩ : ByteArray), .string (⟨#[]⟩ : ByteArray), .string (⟨#[]⟩ : ByteArray), .string (⟨#[]⟩ : ByteArray), .string (⟨#[]⟩ : ByteArray)] 29 (0, 0))) ∧ (b 27 = true → w.heap.size ≤ gb332) ∧ (b 27 = true → w.heap.size ≤ gb332) ∧ (b 27 = true → gb317 ≠ gb332) ∧ (b 27 = true → gb332 ≠ gb317) ∧ (b 28 = true → w'.heap[gb332]? = some (.cells #[.string (rdOf ByteArray.empty y318 (Go.bits .and .i64 a0 1)), .string t322, .string (rdOf ByteArray.empty y323 (ji5)), .string (rdOf ByteArray.empty y327 (ji8)), .string t331, .string (⟨#[]⟩ : ByteArray)] 29 (0, 0))) ∧ (b 3 = true → (m3_ : Value) = .pointer (some (adz_v319.add ((Go.bits .and .i64 a0 1)).toNat))) ∧ (b 13 = true → (m13_ : Value) = .pointer (some (adz_v324.add ((ji5)).toNat))) ∧ (b 20 = true → (m20_ : Value) = .pointer (some (adz_v328.add ((ji8)).toNat))) ∧ (b 27 = true → (m27_ : Value) = .pointer (some ⟨gb332, 0, none⟩))) HT_.out HW_.out (by kernel_rfl) (by kernel_rfl) ?_ ?_ ?_
                · exact ⟨.bool false, ⟨0, 0, none⟩, .bool false, ⟨0, 0, none⟩, .bool false, ⟨0, 0, none⟩, 0, .bool false, .bool false, .bool false, .bool false, by simp only [putSel, Bool.false_eq_true, if_false], BK317.out, HB.out, fun h_ => absurd h_ (by decide), fun h_ => absurd h_ (by decide), fun h_ => absurd h_ (by decide), fun h_ => absurd h_ (by decide), fun h_ => absurd h_ (by decide), fun h_ => absurd h_ (by decide), fun h_ => absurd h_ (by decide), fun h_ => absurd h_ (by decide), fun h_ => absurd h_ (by decide), fun h_ => absurd h_ (by decide), fun h_ => absurd h_ (by decide), fun h_ => absurd h_ (by decide), fun h_ => absurd h_ (by decide), fun h_ => absurd h_ (by decide), fun h_ => absurd h_ (by decide), fun h_ => absurd h_ (by decide)⟩
                · skip
                  clear BK317 HB
                  refine steps_cons ?_ ?_
                  · rintro b a w' ⟨v319, adz_v319, v324, adz_v324, v328, adz_v328, gb332, m3_, m13_, m20_, m27_, ha, Q_BK317, Q_HB, Q_HO320, Q_HA_HO320, Q_HO325, Q_HA_HO325, Q_HO329, Q_HA_HO329, Q_BK332, Q_GW332, Q_GE332, Q_NB317_332, Q_NB332_317, Q_BK332_e28, Q_X3_, Q_X13_, Q_X20_, Q_X27_⟩ hb_ hon hoff
                    refine ⟨_, rfl, fun K hK => ?_⟩
                    replace ha := Aside0.mk ha
                    have BK317 := Aside0.mk Q_BK317
                    have HB := Aside0.mk Q_HB
                    refine Kd.R_lit_step Kd.string _ 9 ?hg (N := 4) ?hd (xs := ([(⟨#[97]⟩ : ByteArray), (⟨#[98]⟩ : ByteArray)] : List ByteArray)) (inner := [.string (⟨#[97]⟩ : ByteArray), .string (⟨#[98]⟩ : ByteArray)]) (ok := fun _ => True) (okp := fun _ => True) ?hr ?hp (fun _ hk => hk) trivial (Below.refl _ _) (Nat.le_refl _) (by simp) ?_; (case hd => rfl); (case hg => rfl); (case hr => first | (go_simp; done) | (go_simp; rfl)); (case hp => exact (Reps.one (show Kd.M Kd.string _ _ _ (⟨#[97]⟩ : ByteArray) [.string (⟨#[97]⟩ : ByteArray)] from rfl) (Reps.one (show Kd.M Kd.string _ _ _ (⟨#[98]⟩ : ByteArray) [.string (⟨#[98]⟩ : ByteArray)] from rfl) (Reps.none _ _))))
                    intro v319 w48 ho49 hb hg_ hnew_
                    clear hg_ hnew_
                    (first | rw [← Ny318.out] at ho49 | (simp only [Int.reduceToNat] at ho49; rw [← Ny318.out] at ho49))
                    have n0_ := Aside0.mk (Kd.R_lower ho49 (below_size (by repeat (first | (with_reducible first | exact HB.out | apply below_alloc | apply pw_below_drewN | apply below_drew1 | refine below_set ?_ GE317.out) | exact HB.out))))
                    have n1_ := Aside0.mk (blk_below (g := gb317) (o := .cells #[.string (⟨#[]⟩ : ByteArray), .string (⟨#[]⟩ : ByteArray), .string (⟨#[]⟩ : ByteArray), .string (⟨#[]⟩ : ByteArray), .string (⟨#[]⟩ : ByteArray), .string (⟨#[]⟩ : ByteArray)] 29 (0, 0)) (by (with_reducible repeat (first | refine blk_drewN ?_ _ | refine blk_drew ?_ | refine blk_alloc ?_ _)); exact BK317.out) hb)
                    have n2_ := Aside0.mk (below_step (by repeat (first | (with_reducible first | exact HB.out | apply below_alloc | apply pw_below_drewN | apply below_drew1 | refine below_set ?_ GE317.out) | exact HB.out)) hb)
                    have z_HO325 := fun (h0_ : b 9 = true) => (show Kd.R Kd.string 9 w48 w.heap.size (fun _ => True) v324 y323 from by first | exact (Kd.R_elder' (by (with_reducible repeat (first | apply Kd.R_alloc | apply Kd.R_drewN | apply Kd.R_drew)); exact (Q_HO325 h0_)) (Kd.R_base ho49) hb) | exact Kd.R_mono (Kd.R_elder' (by (with_reducible repeat (first | apply Kd.R_alloc | apply Kd.R_drewN | apply Kd.R_drew)); exact (Q_HO325 h0_)) (Kd.R_base ho49) hb) (fun _ h_ => by first | trivial | exact h_ | exact h_.1))
                    have z_HO329 := fun (h0_ : b 15 = true) => (show Kd.R Kd.string 9 w48 w.heap.size (fun _ => True) v328 y327 from by first | exact (Kd.R_elder' (by (with_reducible repeat (first | apply Kd.R_alloc | apply Kd.R_drewN | apply Kd.R_drew)); exact (Q_HO329 h0_)) (Kd.R_base ho49) hb) | exact Kd.R_mono (Kd.R_elder' (by (with_reducible repeat (first | apply Kd.R_alloc | apply Kd.R_drewN | apply Kd.R_drew)); exact (Q_HO329 h0_)) (Kd.R_base ho49) hb) (fun _ h_ => by first | trivial | exact h_ | exact h_.1))
                    have z_BK332 := fun (h0_ : b 27 = true) (h1_ : b 28 = false) => (show w48.heap[gb332]? = some (.cells #[.string (⟨#[]⟩ : ByteArray), .string (⟨#[]⟩ : ByteArray), .string (⟨#[]⟩ : ByteArray), .string (⟨#[]⟩ : ByteArray), .string (⟨#[]⟩ : ByteArray), .string (⟨#[]⟩ : ByteArray)] 29 (0, 0)) from by first | exact (blk_below (g := gb332) (o := .cells #[.string (⟨#[]⟩ : ByteArray), .string (⟨#[]⟩ : ByteArray), .string (⟨#[]⟩ : ByteArray), .string (⟨#[]⟩ : ByteArray), .string (⟨#[]⟩ : ByteArray), .string (⟨#[]⟩ : ByteArray)] 29 (0, 0)) (by (with_reducible repeat (first | refine blk_drewN ?_ _ | refine blk_drew ?_ | refine blk_alloc ?_ _)); exact (Q_BK332 h0_ h1_)) hb))
                    clear BK317
                    clear HB
                    have HO320 := n0_
                    have BK317 := n1_
                    have HB := n2_
                    clear n0_ n1_ n2_
                    clear hb ho49
                    obtain ⟨Ao50, co50, eo50⟩ := Kd.R_slice HO320.out
                    subst eo50
                    obtain ⟨ado50, fo50, _⟩ := Kd.at_string (Kd.R_reads' HO320.out).2.2 0 (by decide) (by rw [Ny318.out]; simp)
                    cases fo50
                    refine hK.out _ _ ⟨.slice (some ado50) y318.length co50, ado50, v324, adz_v324, v328, adz_v328, gb332, m3_, m13_, m20_, m27_, (by rw [ha.out]; exact putSel_upk 0 hb_ rfl rfl rfl), (by (with_reducible repeat (first | refine blk_drewN ?_ _ | refine blk_drew ?_ | refine blk_alloc ?_ _)); exact BK317.out), (by repeat (first | (with_reducible first | exact HB.out | apply below_alloc | apply pw_below_drewN | apply below_drew1 | refine below_set ?_ GE317.out) | exact HB.out)), fun _ => (by (with_reducible repeat (first | apply Kd.R_alloc | apply Kd.R_drewN | apply Kd.R_drew)); exact HO320.out), fun _ => ⟨_, rfl⟩, z_HO325, Q_HA_HO325, z_HO329, Q_HA_HO329, z_BK332, Q_GW332, Q_GE332, Q_NB317_332, Q_NB332_317, fun h0_ => absurd ((hoff 28 (by kernel_rfl)).symm.trans h0_) (by decide), fun h0_ => absurd ((hoff 3 (by kernel_rfl)).symm.trans h0_) (by decide), Q_X13_, Q_X20_, Q_X27_⟩
                  refine steps_cons ?_ ?_
                  · rintro b a w' ⟨v319, adz_v319, v324, adz_v324, v328, adz_v328, gb332, m3_, m13_, m20_, m27_, ha, Q_BK317, Q_HB, Q_HO320, Q_HA_HO320, Q_HO325, Q_HA_HO325, Q_HO329, Q_HA_HO329, Q_BK332, Q_GW332, Q_GE332, Q_NB317_332, Q_NB332_317, Q_BK332_e28, Q_X3_, Q_X13_, Q_X20_, Q_X27_⟩ hb_ hon hoff
                    refine ⟨_, rfl, fun K hK => ?_⟩
                    have e5 : a.tmps[5]? = some (.int .i64 a0) := by rw [ha]; exact (putSel_off rfl).trans rfl
                    replace ha := Aside0.mk ha
                    have BK317 := Aside0.mk Q_BK317
                    have HB := Aside0.mk Q_HB
                    refine value_ (w1 := w') (v := .int .i64 (Go.bits .and .i64 a0 1)) (by rfl) rfl ?_ ?_
                    · go_simp
                      (try simp only [i64_w])
                      try rfl
                    refine hK.out _ _ ⟨v319, adz_v319, v324, adz_v324, v328, adz_v328, gb332, m3_, m13_, m20_, m27_, (by rw [ha.out]; exact putSel_upk 1 hb_ rfl rfl rfl), Q_BK317, Q_HB, Q_HO320, Q_HA_HO320, Q_HO325, Q_HA_HO325, Q_HO329, Q_HA_HO329, Q_BK332, Q_GW332, Q_GE332, Q_NB317_332, Q_NB332_317, fun h0_ => absurd ((hoff 28 (by kernel_rfl)).symm.trans h0_) (by decide), fun h0_ => absurd ((hoff 3 (by kernel_rfl)).symm.trans h0_) (by decide), Q_X13_, Q_X20_, Q_X27_⟩
                  refine steps_cons ?_ ?_
                  · rintro b a w' ⟨v319, adz_v319, v324, adz_v324, v328, adz_v328, gb332, m3_, m13_, m20_, m27_, ha, Q_BK317, Q_HB, Q_HO320, Q_HA_HO320, Q_HO325, Q_HA_HO325, Q_HO329, Q_HA_HO329, Q_BK332, Q_GW332, Q_GE332, Q_NB317_332, Q_NB332_317, Q_BK332_e28, Q_X3_, Q_X13_, Q_X20_, Q_X27_⟩ hb_ hon hoff
                    refine ⟨_, rfl, fun K hK => ?_⟩
                    have e4 : a.tmps[4]? = some (v319) := by rw [ha]; exact putSel_on (e := (0, 4, v319)) 0 rfl rfl (hon 0 (by kernel_rfl)) rfl
                    have e6 : a.tmps[6]? = some (.int .i64 (Go.bits .and .i64 a0 1)) := by rw [ha]; exact putSel_on (e := (2, 6, .int .i64 (Go.bits .and .i64 a0 1))) 1 rfl rfl (hon 2 (by kernel_rfl)) rfl
                    replace ha := Aside0.mk ha
                    have BK317 := Aside0.mk Q_BK317
                    have HB := Aside0.mk Q_HB
                    have HO320 := Aside0.mk (Q_HO320 (hon 0 (by kernel_rfl)))
                    have HA_HO320 := Aside0.mk (Q_HA_HO320 (hon 0 (by kernel_rfl)))
                    obtain ⟨c_, hv_⟩ := HA_HO320.out
                    rw [hv_] at e4
                    refine value_ (w1 := w') (v := .pointer (some (adz_v319.add ((Go.bits .and .i64 a0 1)).toNat))) (by rfl) rfl ?_ ?_
                    · go_simp
                      (try simp only [i64_w])
                      try rfl
                    refine hK.out _ _ ⟨v319, adz_v319, v324, adz_v324, v328, adz_v328, gb332, (.pointer (some (adz_v319.add ((Go.bits .and .i64 a0 1)).toNat))), m13_, m20_, m27_, (by rw [ha.out]; exact putSel_upk 2 hb_ rfl rfl rfl), Q_BK317, Q_HB, Q_HO320, Q_HA_HO320, Q_HO325, Q_HA_HO325, Q_HO329, Q_HA_HO329, Q_BK332, Q_GW332, Q_GE332, Q_NB317_332, Q_NB332_317, fun h0_ => absurd ((hoff 28 (by kernel_rfl)).symm.trans h0_) (by decide), fun _ => rfl, Q_X13_, Q_X20_, Q_X27_⟩
                  refine steps_cons ?_ ?_
                  · rintro b a w' ⟨v319, adz_v319, v324, adz_v324, v328, adz_v328, gb332, m3_, m13_, m20_, m27_, ha, Q_BK317, Q_HB, Q_HO320, Q_HA_HO320, Q_HO325, Q_HA_HO325, Q_HO329, Q_HA_HO329, Q_BK332, Q_GW332, Q_GE332, Q_NB317_332, Q_NB332_317, Q_BK332_e28, Q_X3_, Q_X13_, Q_X20_, Q_X27_⟩ hb_ hon hoff
                    refine ⟨_, rfl, fun K hK => ?_⟩
                    have e7 : a.tmps[7]? = some (m3_) := by rw [ha]; exact putSel_on (e := (3, 7, m3_)) 2 rfl rfl (hon 3 (by kernel_rfl)) rfl
                    rw [Q_X3_ (hon 3 (by kernel_rfl))] at e7
                    replace ha := Aside0.mk ha
                    have BK317 := Aside0.mk Q_BK317
                    have HB := Aside0.mk Q_HB
                    have HO320 := Aside0.mk (Q_HO320 (hon 0 (by kernel_rfl)))
                    have HA_HO320 := Aside0.mk (Q_HA_HO320 (hon 0 (by kernel_rfl)))
                    obtain ⟨c_, hv_⟩ := HA_HO320.out
                    have hF_ := HO320.out
                    rw [hv_] at hF_
                    obtain ⟨ad_, ea_, hx_⟩ := Kd.at_string (Kd.R_reads' hF_).2.2 (Go.bits .and .i64 a0 1) (of_eq_true pi321) (of_eq_true qi321)
                    cases ea_
                    refine value_ (w1 := w') (v := .string (rdOf ByteArray.empty y318 (Go.bits .and .i64 a0 1))) (by rfl) rfl ?_ ?_
                    · go_simp
                      (try simp only [i64_w])
                      try rfl
                    refine hK.out _ _ ⟨v319, adz_v319, v324, adz_v324, v328, adz_v328, gb332, m3_, m13_, m20_, m27_, (by rw [ha.out]; exact putSel_upk 3 hb_ rfl rfl rfl), Q_BK317, Q_HB, Q_HO320, Q_HA_HO320, Q_HO325, Q_HA_HO325, Q_HO329, Q_HA_HO329, Q_BK332, Q_GW332, Q_GE332, Q_NB317_332, Q_NB332_317, fun h0_ => absurd ((hoff 28 (by kernel_rfl)).symm.trans h0_) (by decide), Q_X3_, Q_X13_, Q_X20_, Q_X27_⟩
                  refine steps_cons ?_ ?_
                  · rintro b a w' ⟨v319, adz_v319, v324, adz_v324, v328, adz_v328, gb332, m3_, m13_, m20_, m27_, ha, Q_BK317, Q_HB, Q_HO320, Q_HA_HO320, Q_HO325, Q_HA_HO325, Q_HO329, Q_HA_HO329, Q_BK332, Q_GW332, Q_GE332, Q_NB317_332, Q_NB332_317, Q_BK332_e28, Q_X3_, Q_X13_, Q_X20_, Q_X27_⟩ hb_ hon hoff
                    refine ⟨_, rfl, fun K hK => ?_⟩
                    have e9 : a.tmps[9]? = some (.int .i64 a0) := by rw [ha]; exact (putSel_off rfl).trans rfl
                    replace ha := Aside0.mk ha
                    have BK317 := Aside0.mk Q_BK317
                    have HB := Aside0.mk Q_HB
                    refine value_ (w1 := w') (v := .int .i64 (a0 / 2)) (by rfl) rfl ?_ ?_
                    · go_simp
                      (try simp only [i64_w])
                      try rfl
                    refine hK.out _ _ ⟨v319, adz_v319, v324, adz_v324, v328, adz_v328, gb332, m3_, m13_, m20_, m27_, (by rw [ha.out]; exact putSel_upk 4 hb_ rfl rfl rfl), Q_BK317, Q_HB, Q_HO320, Q_HA_HO320, Q_HO325, Q_HA_HO325, Q_HO329, Q_HA_HO329, Q_BK332, Q_GW332, Q_GE332, Q_NB317_332, Q_NB332_317, fun h0_ => absurd ((hoff 28 (by kernel_rfl)).symm.trans h0_) (by decide), Q_X3_, Q_X13_, Q_X20_, Q_X27_⟩
                  refine steps_cons ?_ ?_
                  · rintro b a w' ⟨v319, adz_v319, v324, adz_v324, v328, adz_v328, gb332, m3_, m13_, m20_, m27_, ha, Q_BK317, Q_HB, Q_HO320, Q_HA_HO320, Q_HO325, Q_HA_HO325, Q_HO329, Q_HA_HO329, Q_BK332, Q_GW332, Q_GE332, Q_NB317_332, Q_NB332_317, Q_BK332_e28, Q_X3_, Q_X13_, Q_X20_, Q_X27_⟩ hb_ hon hoff
                    refine ⟨_, rfl, fun K hK => ?_⟩
                    have e10 : a.tmps[10]? = some (.int .i64 (a0 / 2)) := by rw [ha]; exact putSel_on (e := (6, 10, .int .i64 (a0 / 2))) 4 rfl rfl (hon 6 (by kernel_rfl)) rfl
                    replace ha := Aside0.mk ha
                    have BK317 := Aside0.mk Q_BK317
                    have HB := Aside0.mk Q_HB
                    refine goes_ Try.func15 (by kernel_rfl) rfl #[.int .i64 (a0 / 2)] (by rfl) rfl rfl (by first | (simp only [List.map_toArray, List.map_cons, List.map_nil, Act.eval, Array.getD_eq_getD_getElem?, Option.getD_some, e10]; done) | (simp only [List.map_toArray, List.map_cons, List.map_nil, Act.eval, Array.getD_eq_getD_getElem?, Option.getD_some, e10]; rfl)) ?_
                    with_reducible refine (entaillaw1_Nm.calls (a0 / 2) t322 _ A4.out).mono ?_
                    rintro e w48 ⟨rfl, hb⟩
                    refine ⟨_, rfl, ?_⟩
                    have n0_ := Aside0.mk (blk_below (g := gb317) (o := .cells #[.string (⟨#[]⟩ : ByteArray), .string (⟨#[]⟩ : ByteArray), .string (⟨#[]⟩ : ByteArray), .string (⟨#[]⟩ : ByteArray), .string (⟨#[]⟩ : ByteArray), .string (⟨#[]⟩ : ByteArray)] 29 (0, 0)) (by (with_reducible repeat (first | refine blk_drewN ?_ _ | refine blk_drew ?_ | refine blk_alloc ?_ _)); exact BK317.out) hb)
                    have n1_ := Aside0.mk (below_step (by repeat (first | (with_reducible first | exact HB.out | apply below_alloc | apply pw_below_drewN | apply below_drew1 | refine below_set ?_ GE317.out) | exact HB.out)) hb)
                    have z_HO320 := fun (h0_ : b 0 = true) => (show Kd.R Kd.string 9 w48 w.heap.size (fun _ => True) v319 y318 from by first | exact (Kd.R_below (by (with_reducible repeat (first | apply Kd.R_alloc | apply Kd.R_drewN | apply Kd.R_drew)); exact (Q_HO320 h0_)) hb) | exact Kd.R_mono (Kd.R_below (by (with_reducible repeat (first | apply Kd.R_alloc | apply Kd.R_drewN | apply Kd.R_drew)); exact (Q_HO320 h0_)) hb) (fun _ h_ => by first | trivial | exact h_ | exact h_.1))
                    have z_HO325 := fun (h0_ : b 9 = true) => (show Kd.R Kd.string 9 w48 w.heap.size (fun _ => True) v324 y323 from by first | exact (Kd.R_below (by (with_reducible repeat (first | apply Kd.R_alloc | apply Kd.R_drewN | apply Kd.R_drew)); exact (Q_HO325 h0_)) hb) | exact Kd.R_mono (Kd.R_below (by (with_reducible repeat (first | apply Kd.R_alloc | apply Kd.R_drewN | apply Kd.R_drew)); exact (Q_HO325 h0_)) hb) (fun _ h_ => by first | trivial | exact h_ | exact h_.1))
                    have z_HO329 := fun (h0_ : b 15 = true) => (show Kd.R Kd.string 9 w48 w.heap.size (fun _ => True) v328 y327 from by first | exact (Kd.R_below (by (with_reducible repeat (first | apply Kd.R_alloc | apply Kd.R_drewN | apply Kd.R_drew)); exact (Q_HO329 h0_)) hb) | exact Kd.R_mono (Kd.R_below (by (with_reducible repeat (first | apply Kd.R_alloc | apply Kd.R_drewN | apply Kd.R_drew)); exact (Q_HO329 h0_)) hb) (fun _ h_ => by first | trivial | exact h_ | exact h_.1))
                    have z_BK332 := fun (h0_ : b 27 = true) (h1_ : b 28 = false) => (show w48.heap[gb332]? = some (.cells #[.string (⟨#[]⟩ : ByteArray), .string (⟨#[]⟩ : ByteArray), .string (⟨#[]⟩ : ByteArray), .string (⟨#[]⟩ : ByteArray), .string (⟨#[]⟩ : ByteArray), .string (⟨#[]⟩ : ByteArray)] 29 (0, 0)) from by first | exact (blk_below (g := gb332) (o := .cells #[.string (⟨#[]⟩ : ByteArray), .string (⟨#[]⟩ : ByteArray), .string (⟨#[]⟩ : ByteArray), .string (⟨#[]⟩ : ByteArray), .string (⟨#[]⟩ : ByteArray), .string (⟨#[]⟩ : ByteArray)] 29 (0, 0)) (by (with_reducible repeat (first | refine blk_drewN ?_ _ | refine blk_drew ?_ | refine blk_alloc ?_ _)); exact (Q_BK332 h0_ h1_)) hb))
                    clear BK317
                    clear HB
                    have BK317 := n0_
                    have HB := n1_
                    clear n0_ n1_
                    (try clear hb)
                    (try clear hb2)
                    (try clear hk)
                    (try clear hi)
                    refine hK.out _ _ ⟨v319, adz_v319, v324, adz_v324, v328, adz_v328, gb332, m3_, m13_, m20_, m27_, (by rw [ha.out]; exact putSel_upk 5 hb_ rfl rfl rfl), (by (with_reducible repeat (first | refine blk_drewN ?_ _ | refine blk_drew ?_ | refine blk_alloc ?_ _)); exact BK317.out), (by repeat (first | (with_reducible first | exact HB.out | apply below_alloc | apply pw_below_drewN | apply below_drew1 | refine below_set ?_ GE317.out) | exact HB.out)), z_HO320, Q_HA_HO320, z_HO325, Q_HA_HO325, z_HO329, Q_HA_HO329, z_BK332, Q_GW332, Q_GE332, Q_NB317_332, Q_NB332_317, fun h0_ => absurd ((hoff 28 (by kernel_rfl)).symm.trans h0_) (by decide), Q_X3_, Q_X13_, Q_X20_, Q_X27_⟩
                  refine steps_cons ?_ ?_
                  · rintro b a w' ⟨v319, adz_v319, v324, adz_v324, v328, adz_v328, gb332, m3_, m13_, m20_, m27_, ha, Q_BK317, Q_HB, Q_HO320, Q_HA_HO320, Q_HO325, Q_HA_HO325, Q_HO329, Q_HA_HO329, Q_BK332, Q_GW332, Q_GE332, Q_NB317_332, Q_NB332_317, Q_BK332_e28, Q_X3_, Q_X13_, Q_X20_, Q_X27_⟩ hb_ hon hoff
                    refine ⟨_, rfl, fun K hK => ?_⟩
                    have e8 : a.tmps[8]? = some (.string (rdOf ByteArray.empty y318 (Go.bits .and .i64 a0 1))) := by rw [ha]; exact putSel_on (e := (4, 8, .string (rdOf ByteArray.empty y318 (Go.bits .and .i64 a0 1)))) 3 rfl rfl (hon 4 (by kernel_rfl)) rfl
                    have e11 : a.tmps[11]? = some (.string t322) := by rw [ha]; exact putSel_on (e := (7, 11, .string t322)) 5 rfl rfl (hon 7 (by kernel_rfl)) rfl
                    replace ha := Aside0.mk ha
                    have BK317 := Aside0.mk Q_BK317
                    have HB := Aside0.mk Q_HB
                    have HO320 := Aside0.mk (Q_HO320 (hon 0 (by kernel_rfl)))
                    have HA_HO320 := Aside0.mk (Q_HA_HO320 (hon 0 (by kernel_rfl)))
                    refine value_ (w1 := w') (v := .agg #[.string (rdOf ByteArray.empty y318 (Go.bits .and .i64 a0 1)), .string t322]) (by rfl) rfl ?_ ?_
                    · go_simp
                      (try simp only [i64_w])
                      try rfl
                    refine hK.out _ _ ⟨v319, adz_v319, v324, adz_v324, v328, adz_v328, gb332, m3_, m13_, m20_, m27_, (by rw [ha.out]; exact putSel_upk 6 hb_ rfl rfl rfl), Q_BK317, Q_HB, Q_HO320, Q_HA_HO320, Q_HO325, Q_HA_HO325, Q_HO329, Q_HA_HO329, Q_BK332, Q_GW332, Q_GE332, Q_NB317_332, Q_NB332_317, fun h0_ => absurd ((hoff 28 (by kernel_rfl)).symm.trans h0_) (by decide), Q_X3_, Q_X13_, Q_X20_, Q_X27_⟩
                  refine steps_cons ?_ ?_
                  · rintro b a w' ⟨v319, adz_v319, v324, adz_v324, v328, adz_v328, gb332, m3_, m13_, m20_, m27_, ha, Q_BK317, Q_HB, Q_HO320, Q_HA_HO320, Q_HO325, Q_HA_HO325, Q_HO329, Q_HA_HO329, Q_BK332, Q_GW332, Q_GE332, Q_NB317_332, Q_NB332_317, Q_BK332_e28, Q_X3_, Q_X13_, Q_X20_, Q_X27_⟩ hb_ hon hoff
                    refine ⟨_, rfl, fun K hK => ?_⟩
                    replace ha := Aside0.mk ha
                    have BK317 := Aside0.mk Q_BK317
                    have HB := Aside0.mk Q_HB
                    refine Kd.R_lit_step Kd.string _ 9 ?hg (N := 13) ?hd (xs := ([(⟨#[114]⟩ : ByteArray), (⟨#[115]⟩ : ByteArray)] : List ByteArray)) (inner := [.string (⟨#[114]⟩ : ByteArray), .string (⟨#[115]⟩ : ByteArray)]) (ok := fun _ => True) (okp := fun _ => True) ?hr ?hp (fun _ hk => hk) trivial (Below.refl _ _) (Nat.le_refl _) (by simp) ?_; (case hd => rfl); (case hg => rfl); (case hr => first | (go_simp; done) | (go_simp; rfl)); (case hp => exact (Reps.one (show Kd.M Kd.string _ _ _ (⟨#[114]⟩ : ByteArray) [.string (⟨#[114]⟩ : ByteArray)] from rfl) (Reps.one (show Kd.M Kd.string _ _ _ (⟨#[115]⟩ : ByteArray) [.string (⟨#[115]⟩ : ByteArray)] from rfl) (Reps.none _ _))))
                    intro v324 w48 ho49 hb hg_ hnew_
                    clear hg_ hnew_
                    (first | rw [← Ny323.out] at ho49 | (simp only [Int.reduceToNat] at ho49; rw [← Ny323.out] at ho49))
                    have n0_ := Aside0.mk (Kd.R_lower ho49 (below_size (by repeat (first | (with_reducible first | exact HB.out | apply below_alloc | apply pw_below_drewN | apply below_drew1 | refine below_set ?_ GE317.out) | exact HB.out))))
                    have n1_ := Aside0.mk (blk_below (g := gb317) (o := .cells #[.string (⟨#[]⟩ : ByteArray), .string (⟨#[]⟩ : ByteArray), .string (⟨#[]⟩ : ByteArray), .string (⟨#[]⟩ : ByteArray), .string (⟨#[]⟩ : ByteArray), .string (⟨#[]⟩ : ByteArray)] 29 (0, 0)) (by (with_reducible repeat (first | refine blk_drewN ?_ _ | refine blk_drew ?_ | refine blk_alloc ?_ _)); exact BK317.out) hb)
                    have n2_ := Aside0.mk (below_step (by repeat (first | (with_reducible first | exact HB.out | apply below_alloc | apply pw_below_drewN | apply below_drew1 | refine below_set ?_ GE317.out) | exact HB.out)) hb)
                    have z_HO320 := fun (h0_ : b 0 = true) => (show Kd.R Kd.string 9 w48 w.heap.size (fun _ => True) v319 y318 from by first | exact (Kd.R_elder' (by (with_reducible repeat (first | apply Kd.R_alloc | apply Kd.R_drewN | apply Kd.R_drew)); exact (Q_HO320 h0_)) (Kd.R_base ho49) hb) | exact Kd.R_mono (Kd.R_elder' (by (with_reducible repeat (first | apply Kd.R_alloc | apply Kd.R_drewN | apply Kd.R_drew)); exact (Q_HO320 h0_)) (Kd.R_base ho49) hb) (fun _ h_ => by first | trivial | exact h_ | exact h_.1))
                    have z_HO329 := fun (h0_ : b 15 = true) => (show Kd.R Kd.string 9 w48 w.heap.size (fun _ => True) v328 y327 from by first | exact (Kd.R_elder' (by (with_reducible repeat (first | apply Kd.R_alloc | apply Kd.R_drewN | apply Kd.R_drew)); exact (Q_HO329 h0_)) (Kd.R_base ho49) hb) | exact Kd.R_mono (Kd.R_elder' (by (with_reducible repeat (first | apply Kd.R_alloc | apply Kd.R_drewN | apply Kd.R_drew)); exact (Q_HO329 h0_)) (Kd.R_base ho49) hb) (fun _ h_ => by first | trivial | exact h_ | exact h_.1))
                    have z_BK332 := fun (h0_ : b 27 = true) (h1_ : b 28 = false) => (show w48.heap[gb332]? = some (.cells #[.string (⟨#[]⟩ : ByteArray), .string (⟨#[]⟩ : ByteArray), .string (⟨#[]⟩ : ByteArray), .string (⟨#[]⟩ : ByteArray), .string (⟨#[]⟩ : ByteArray), .string (⟨#[]⟩ : ByteArray)] 29 (0, 0)) from by first | exact (blk_below (g := gb332) (o := .cells #[.string (⟨#[]⟩ : ByteArray), .string (⟨#[]⟩ : ByteArray), .string (⟨#[]⟩ : ByteArray), .string (⟨#[]⟩ : ByteArray), .string (⟨#[]⟩ : ByteArray), .string (⟨#[]⟩ : ByteArray)] 29 (0, 0)) (by (with_reducible repeat (first | refine blk_drewN ?_ _ | refine blk_drew ?_ | refine blk_alloc ?_ _)); exact (Q_BK332 h0_ h1_)) hb))
                    clear BK317
                    clear HB
                    have HO325 := n0_
                    have BK317 := n1_
                    have HB := n2_
                    clear n0_ n1_ n2_
                    clear hb ho49
                    obtain ⟨Ao50, co50, eo50⟩ := Kd.R_slice HO325.out
                    subst eo50
                    obtain ⟨ado50, fo50, _⟩ := Kd.at_string (Kd.R_reads' HO325.out).2.2 0 (by decide) (by rw [Ny323.out]; simp)
                    cases fo50
                    refine hK.out _ _ ⟨v319, adz_v319, .slice (some ado50) y323.length co50, ado50, v328, adz_v328, gb332, m3_, m13_, m20_, m27_, (by rw [ha.out]; exact putSel_upk 7 hb_ rfl rfl rfl), (by (with_reducible repeat (first | refine blk_drewN ?_ _ | refine blk_drew ?_ | refine blk_alloc ?_ _)); exact BK317.out), (by repeat (first | (with_reducible first | exact HB.out | apply below_alloc | apply pw_below_drewN | apply below_drew1 | refine below_set ?_ GE317.out) | exact HB.out)), z_HO320, Q_HA_HO320, fun _ => (by (with_reducible repeat (first | apply Kd.R_alloc | apply Kd.R_drewN | apply Kd.R_drew)); exact HO325.out), fun _ => ⟨_, rfl⟩, z_HO329, Q_HA_HO329, z_BK332, Q_GW332, Q_GE332, Q_NB317_332, Q_NB332_317, fun h0_ => absurd ((hoff 28 (by kernel_rfl)).symm.trans h0_) (by decide), Q_X3_, fun h0_ => absurd ((hoff 13 (by kernel_rfl)).symm.trans h0_) (by decide), Q_X20_, Q_X27_⟩
                  refine steps_cons ?_ ?_
                  · rintro b a w' ⟨v319, adz_v319, v324, adz_v324, v328, adz_v328, gb332, m3_, m13_, m20_, m27_, ha, Q_BK317, Q_HB, Q_HO320, Q_HA_HO320, Q_HO325, Q_HA_HO325, Q_HO329, Q_HA_HO329, Q_BK332, Q_GW332, Q_GE332, Q_NB317_332, Q_NB332_317, Q_BK332_e28, Q_X3_, Q_X13_, Q_X20_, Q_X27_⟩ hb_ hon hoff
                    refine ⟨_, rfl, fun K hK => ?_⟩
                    have e14 : a.tmps[14]? = some (.int .i64 a0) := by rw [ha]; exact (putSel_off rfl).trans rfl
                    replace ha := Aside0.mk ha
                    have BK317 := Aside0.mk Q_BK317
                    have HB := Aside0.mk Q_HB
                    refine value_ (w1 := w') (v := .int .i64 (a0 / 16)) (by rfl) rfl ?_ ?_
                    · go_simp
                      (try simp only [i64_w])
                      try rfl
                    refine hK.out _ _ ⟨v319, adz_v319, v324, adz_v324, v328, adz_v328, gb332, m3_, m13_, m20_, m27_, (by rw [ha.out]; exact putSel_upk 8 hb_ rfl rfl rfl), Q_BK317, Q_HB, Q_HO320, Q_HA_HO320, Q_HO325, Q_HA_HO325, Q_HO329, Q_HA_HO329, Q_BK332, Q_GW332, Q_GE332, Q_NB317_332, Q_NB332_317, fun h0_ => absurd ((hoff 28 (by kernel_rfl)).symm.trans h0_) (by decide), Q_X3_, fun h0_ => absurd ((hoff 13 (by kernel_rfl)).symm.trans h0_) (by decide), Q_X20_, Q_X27_⟩
                  refine steps_cons ?_ ?_
                  · rintro b a w' ⟨v319, adz_v319, v324, adz_v324, v328, adz_v328, gb332, m3_, m13_, m20_, m27_, ha, Q_BK317, Q_HB, Q_HO320, Q_HA_HO320, Q_HO325, Q_HA_HO325, Q_HO329, Q_HA_HO329, Q_BK332, Q_GW332, Q_GE332, Q_NB317_332, Q_NB332_317, Q_BK332_e28, Q_X3_, Q_X13_, Q_X20_, Q_X27_⟩ hb_ hon hoff
                    refine ⟨_, rfl, fun K hK => ?_⟩
                    have e15 : a.tmps[15]? = some (.int .i64 (a0 / 16)) := by rw [ha]; exact putSel_on (e := (11, 15, .int .i64 (a0 / 16))) 8 rfl rfl (hon 11 (by kernel_rfl)) rfl
                    replace ha := Aside0.mk ha
                    have BK317 := Aside0.mk Q_BK317
                    have HB := Aside0.mk Q_HB
                    refine value_ (w1 := w') (v := .int .i64 ji5) (by rfl) rfl ?_ ?_
                    · go_simp
                      (try simp only [i64_w])
                      try rfl
                    refine hK.out _ _ ⟨v319, adz_v319, v324, adz_v324, v328, adz_v328, gb332, m3_, m13_, m20_, m27_, (by rw [ha.out]; exact putSel_upk 9 hb_ rfl rfl rfl), Q_BK317, Q_HB, Q_HO320, Q_HA_HO320, Q_HO325, Q_HA_HO325, Q_HO329, Q_HA_HO329, Q_BK332, Q_GW332, Q_GE332, Q_NB317_332, Q_NB332_317, fun h0_ => absurd ((hoff 28 (by kernel_rfl)).symm.trans h0_) (by decide), Q_X3_, fun h0_ => absurd ((hoff 13 (by kernel_rfl)).symm.trans h0_) (by decide), Q_X20_, Q_X27_⟩
                  refine steps_cons ?_ ?_
                  · rintro b a w' ⟨v319, adz_v319, v324, adz_v324, v328, adz_v328, gb332, m3_, m13_, m20_, m27_, ha, Q_BK317, Q_HB, Q_HO320, Q_HA_HO320, Q_HO325, Q_HA_HO325, Q_HO329, Q_HA_HO329, Q_BK332, Q_GW332, Q_GE332, Q_NB317_332, Q_NB332_317, Q_BK332_e28, Q_X3_, Q_X13_, Q_X20_, Q_X27_⟩ hb_ hon hoff
                    refine ⟨_, rfl, fun K hK => ?_⟩
                    have e13 : a.tmps[13]? = some (v324) := by rw [ha]; exact putSel_on (e := (9, 13, v324)) 7 rfl rfl (hon 9 (by kernel_rfl)) rfl
                    have e16 : a.tmps[16]? = some (.int .i64 ji5) := by rw [ha]; exact putSel_on (e := (12, 16, .int .i64 ji5)) 9 rfl rfl (hon 12 (by kernel_rfl)) rfl
                    replace ha := Aside0.mk ha
                    have BK317 := Aside0.mk Q_BK317
                    have HB := Aside0.mk Q_HB
                    have HO325 := Aside0.mk (Q_HO325 (hon 9 (by kernel_rfl)))
                    have HA_HO325 := Aside0.mk (Q_HA_HO325 (hon 9 (by kernel_rfl)))
                    obtain ⟨c_, hv_⟩ := HA_HO325.out
                    rw [hv_] at e13
                    refine value_ (w1 := w') (v := .pointer (some (adz_v324.add ((ji5)).toNat))) (by rfl) rfl ?_ ?_
                    · go_simp
                      (try simp only [i64_w])
                      try rfl
                    refine hK.out _ _ ⟨v319, adz_v319, v324, adz_v324, v328, adz_v328, gb332, m3_, (.pointer (some (adz_v324.add ((ji5)).toNat))), m20_, m27_, (by rw [ha.out]; exact putSel_upk 10 hb_ rfl rfl rfl), Q_BK317, Q_HB, Q_HO320, Q_HA_HO320, Q_HO325, Q_HA_HO325, Q_HO329, Q_HA_HO329, Q_BK332, Q_GW332, Q_GE332, Q_NB317_332, Q_NB332_317, fun h0_ => absurd ((hoff 28 (by kernel_rfl)).symm.trans h0_) (by decide), Q_X3_, fun _ => rfl, Q_X20_, Q_X27_⟩
                  refine steps_cons ?_ ?_
                  · rintro b a w' ⟨v319, adz_v319, v324, adz_v324, v328, adz_v328, gb332, m3_, m13_, m20_, m27_, ha, Q_BK317, Q_HB, Q_HO320, Q_HA_HO320, Q_HO325, Q_HA_HO325, Q_HO329, Q_HA_HO329, Q_BK332, Q_GW332, Q_GE332, Q_NB317_332, Q_NB332_317, Q_BK332_e28, Q_X3_, Q_X13_, Q_X20_, Q_X27_⟩ hb_ hon hoff
                    refine ⟨_, rfl, fun K hK => ?_⟩
                    have e17 : a.tmps[17]? = some (m13_) := by rw [ha]; exact putSel_on (e := (13, 17, m13_)) 10 rfl rfl (hon 13 (by kernel_rfl)) rfl
                    rw [Q_X13_ (hon 13 (by kernel_rfl))] at e17
                    replace ha := Aside0.mk ha
                    have BK317 := Aside0.mk Q_BK317
                    have HB := Aside0.mk Q_HB
                    have HO325 := Aside0.mk (Q_HO325 (hon 9 (by kernel_rfl)))
                    have HA_HO325 := Aside0.mk (Q_HA_HO325 (hon 9 (by kernel_rfl)))
                    obtain ⟨c_, hv_⟩ := HA_HO325.out
                    have hF_ := HO325.out
                    rw [hv_] at hF_
                    obtain ⟨ad_, ea_, hx_⟩ := Kd.at_string (Kd.R_reads' hF_).2.2 (ji5) (of_eq_true pi326) (of_eq_true qi326)
                    cases ea_
                    refine value_ (w1 := w') (v := .string (rdOf ByteArray.empty y323 (ji5))) (by rfl) rfl ?_ ?_
                    · go_simp
                      (try simp only [i64_w])
                      try rfl
                    refine hK.out _ _ ⟨v319, adz_v319, v324, adz_v324, v328, adz_v328, gb332, m3_, m13_, m20_, m27_, (by rw [ha.out]; exact putSel_upk 11 hb_ rfl rfl rfl), Q_BK317, Q_HB, Q_HO320, Q_HA_HO320, Q_HO325, Q_HA_HO325, Q_HO329, Q_HA_HO329, Q_BK332, Q_GW332, Q_GE332, Q_NB317_332, Q_NB332_317, fun h0_ => absurd ((hoff 28 (by kernel_rfl)).symm.trans h0_) (by decide), Q_X3_, Q_X13_, Q_X20_, Q_X27_⟩
                  refine steps_cons ?_ ?_
                  · rintro b a w' ⟨v319, adz_v319, v324, adz_v324, v328, adz_v328, gb332, m3_, m13_, m20_, m27_, ha, Q_BK317, Q_HB, Q_HO320, Q_HA_HO320, Q_HO325, Q_HA_HO325, Q_HO329, Q_HA_HO329, Q_BK332, Q_GW332, Q_GE332, Q_NB317_332, Q_NB332_317, Q_BK332_e28, Q_X3_, Q_X13_, Q_X20_, Q_X27_⟩ hb_ hon hoff
                    refine ⟨_, rfl, fun K hK => ?_⟩
                    replace ha := Aside0.mk ha
                    have BK317 := Aside0.mk Q_BK317
                    have HB := Aside0.mk Q_HB
                    refine Kd.R_lit_step Kd.string _ 9 ?hg (N := 19) ?hd (xs := ([(⟨#[117]⟩ : ByteArray), (⟨#[97]⟩ : ByteArray), (⟨#[98]⟩ : ByteArray)] : List ByteArray)) (inner := [.string (⟨#[117]⟩ : ByteArray), .string (⟨#[97]⟩ : ByteArray), .string (⟨#[98]⟩ : ByteArray)]) (ok := fun _ => True) (okp := fun _ => True) ?hr ?hp (fun _ hk => hk) trivial (Below.refl _ _) (Nat.le_refl _) (by simp) ?_; (case hd => rfl); (case hg => rfl); (case hr => first | (go_simp; done) | (go_simp; rfl)); (case hp => exact (Reps.one (show Kd.M Kd.string _ _ _ (⟨#[117]⟩ : ByteArray) [.string (⟨#[117]⟩ : ByteArray)] from rfl) (Reps.one (show Kd.M Kd.string _ _ _ (⟨#[97]⟩ : ByteArray) [.string (⟨#[97]⟩ : ByteArray)] from rfl) (Reps.one (show Kd.M Kd.string _ _ _ (⟨#[98]⟩ : ByteArray) [.string (⟨#[98]⟩ : ByteArray)] from rfl) (Reps.none _ _)))))
                    intro v328 w48 ho49 hb hg_ hnew_
                    clear hg_ hnew_
                    (first | rw [← Ny327.out] at ho49 | (simp only [Int.reduceToNat] at ho49; rw [← Ny327.out] at ho49))
                    have n0_ := Aside0.mk (Kd.R_lower ho49 (below_size (by repeat (first | (with_reducible first | exact HB.out | apply below_alloc | apply pw_below_drewN | apply below_drew1 | refine below_set ?_ GE317.out) | exact HB.out))))
                    have n1_ := Aside0.mk (blk_below (g := gb317) (o := .cells #[.string (⟨#[]⟩ : ByteArray), .string (⟨#[]⟩ : ByteArray), .string (⟨#[]⟩ : ByteArray), .string (⟨#[]⟩ : ByteArray), .string (⟨#[]⟩ : ByteArray), .string (⟨#[]⟩ : ByteArray)] 29 (0, 0)) (by (with_reducible repeat (first | refine blk_drewN ?_ _ | refine blk_drew ?_ | refine blk_alloc ?_ _)); exact BK317.out) hb)
                    have n2_ := Aside0.mk (below_step (by repeat (first | (with_reducible first | exact HB.out | apply below_alloc | apply pw_below_drewN | apply below_drew1 | refine below_set ?_ GE317.out) | exact HB.out)) hb)
                    have z_HO320 := fun (h0_ : b 0 = true) => (show Kd.R Kd.string 9 w48 w.heap.size (fun _ => True) v319 y318 from by first | exact (Kd.R_elder' (by (with_reducible repeat (first | apply Kd.R_alloc | apply Kd.R_drewN | apply Kd.R_drew)); exact (Q_HO320 h0_)) (Kd.R_base ho49) hb) | exact Kd.R_mono (Kd.R_elder' (by (with_reducible repeat (first | apply Kd.R_alloc | apply Kd.R_drewN | apply Kd.R_drew)); exact (Q_HO320 h0_)) (Kd.R_base ho49) hb) (fun _ h_ => by first | trivial | exact h_ | exact h_.1))
                    have z_HO325 := fun (h0_ : b 9 = true) => (show Kd.R Kd.string 9 w48 w.heap.size (fun _ => True) v324 y323 from by first | exact (Kd.R_elder' (by (with_reducible repeat (first | apply Kd.R_alloc | apply Kd.R_drewN | apply Kd.R_drew)); exact (Q_HO325 h0_)) (Kd.R_base ho49) hb) | exact Kd.R_mono (Kd.R_elder' (by (with_reducible repeat (first | apply Kd.R_alloc | apply Kd.R_drewN | apply Kd.R_drew)); exact (Q_HO325 h0_)) (Kd.R_base ho49) hb) (fun _ h_ => by first | trivial | exact h_ | exact h_.1))
                    have z_BK332 := fun (h0_ : b 27 = true) (h1_ : b 28 = false) => (show w48.heap[gb332]? = some (.cells #[.string (⟨#[]⟩ : ByteArray), .string (⟨#[]⟩ : ByteArray), .string (⟨#[]⟩ : ByteArray), .string (⟨#[]⟩ : ByteArray), .string (⟨#[]⟩ : ByteArray), .string (⟨#[]⟩ : ByteArray)] 29 (0, 0)) from by first | exact (blk_below (g := gb332) (o := .cells #[.string (⟨#[]⟩ : ByteArray), .string (⟨#[]⟩ : ByteArray), .string (⟨#[]⟩ : ByteArray), .string (⟨#[]⟩ : ByteArray), .string (⟨#[]⟩ : ByteArray), .string (⟨#[]⟩ : ByteArray)] 29 (0, 0)) (by (with_reducible repeat (first | refine blk_drewN ?_ _ | refine blk_drew ?_ | refine blk_alloc ?_ _)); exact (Q_BK332 h0_ h1_)) hb))
                    clear BK317
                    clear HB
                    have HO329 := n0_
                    have BK317 := n1_
                    have HB := n2_
                    clear n0_ n1_ n2_
                    clear hb ho49
                    obtain ⟨Ao50, co50, eo50⟩ := Kd.R_slice HO329.out
                    subst eo50
                    obtain ⟨ado50, fo50, _⟩ := Kd.at_string (Kd.R_reads' HO329.out).2.2 0 (by decide) (by rw [Ny327.out]; simp)
                    cases fo50
                    refine hK.out _ _ ⟨v319, adz_v319, v324, adz_v324, .slice (some ado50) y327.length co50, ado50, gb332, m3_, m13_, m20_, m27_, (by rw [ha.out]; exact putSel_upk 12 hb_ rfl rfl rfl), (by (with_reducible repeat (first | refine blk_drewN ?_ _ | refine blk_drew ?_ | refine blk_alloc ?_ _)); exact BK317.out), (by repeat (first | (with_reducible first | exact HB.out | apply below_alloc | apply pw_below_drewN | apply below_drew1 | refine below_set ?_ GE317.out) | exact HB.out)), z_HO320, Q_HA_HO320, z_HO325, Q_HA_HO325, fun _ => (by (with_reducible repeat (first | apply Kd.R_alloc | apply Kd.R_drewN | apply Kd.R_drew)); exact HO329.out), fun _ => ⟨_, rfl⟩, z_BK332, Q_GW332, Q_GE332, Q_NB317_332, Q_NB332_317, fun h0_ => absurd ((hoff 28 (by kernel_rfl)).symm.trans h0_) (by decide), Q_X3_, Q_X13_, fun h0_ => absurd ((hoff 20 (by kernel_rfl)).symm.trans h0_) (by decide), Q_X27_⟩
                  refine steps_cons ?_ ?_
                  · rintro b a w' ⟨v319, adz_v319, v324, adz_v324, v328, adz_v328, gb332, m3_, m13_, m20_, m27_, ha, Q_BK317, Q_HB, Q_HO320, Q_HA_HO320, Q_HO325, Q_HA_HO325, Q_HO329, Q_HA_HO329, Q_BK332, Q_GW332, Q_GE332, Q_NB317_332, Q_NB332_317, Q_BK332_e28, Q_X3_, Q_X13_, Q_X20_, Q_X27_⟩ hb_ hon hoff
                    refine ⟨_, rfl, fun K hK => ?_⟩
                    have e20 : a.tmps[20]? = some (.int .i64 a0) := by rw [ha]; exact (putSel_off rfl).trans rfl
                    replace ha := Aside0.mk ha
                    have BK317 := Aside0.mk Q_BK317
                    have HB := Aside0.mk Q_HB
                    refine value_ (w1 := w') (v := .int .i64 (a0 / 32)) (by rfl) rfl ?_ ?_
                    · go_simp
                      (try simp only [i64_w])
                      try rfl
                    refine hK.out _ _ ⟨v319, adz_v319, v324, adz_v324, v328, adz_v328, gb332, m3_, m13_, m20_, m27_, (by rw [ha.out]; exact putSel_upk 13 hb_ rfl rfl rfl), Q_BK317, Q_HB, Q_HO320, Q_HA_HO320, Q_HO325, Q_HA_HO325, Q_HO329, Q_HA_HO329, Q_BK332, Q_GW332, Q_GE332, Q_NB317_332, Q_NB332_317, fun h0_ => absurd ((hoff 28 (by kernel_rfl)).symm.trans h0_) (by decide), Q_X3_, Q_X13_, fun h0_ => absurd ((hoff 20 (by kernel_rfl)).symm.trans h0_) (by decide), Q_X27_⟩
                  refine steps_cons ?_ ?_
                  · rintro b a w' ⟨v319, adz_v319, v324, adz_v324, v328, adz_v328, gb332, m3_, m13_, m20_, m27_, ha, Q_BK317, Q_HB, Q_HO320, Q_HA_HO320, Q_HO325, Q_HA_HO325, Q_HO329, Q_HA_HO329, Q_BK332, Q_GW332, Q_GE332, Q_NB317_332, Q_NB332_317, Q_BK332_e28, Q_X3_, Q_X13_, Q_X20_, Q_X27_⟩ hb_ hon hoff
                    refine ⟨_, rfl, fun K hK => ?_⟩
                    have e21 : a.tmps[21]? = some (.int .i64 (a0 / 32)) := by rw [ha]; exact putSel_on (e := (17, 21, .int .i64 (a0 / 32))) 13 rfl rfl (hon 17 (by kernel_rfl)) rfl
                    replace ha := Aside0.mk ha
                    have BK317 := Aside0.mk Q_BK317
                    have HB := Aside0.mk Q_HB
                    refine value_ (w1 := w') (v := .int .i64 (Go.bits .and .i64 (a0 / 32) 255)) (by rfl) rfl ?_ ?_
                    · go_simp
                      (try simp only [i64_w])
                      try rfl
                    refine hK.out _ _ ⟨v319, adz_v319, v324, adz_v324, v328, adz_v328, gb332, m3_, m13_, m20_, m27_, (by rw [ha.out]; exact putSel_upk 14 hb_ rfl rfl rfl), Q_BK317, Q_HB, Q_HO320, Q_HA_HO320, Q_HO325, Q_HA_HO325, Q_HO329, Q_HA_HO329, Q_BK332, Q_GW332, Q_GE332, Q_NB317_332, Q_NB332_317, fun h0_ => absurd ((hoff 28 (by kernel_rfl)).symm.trans h0_) (by decide), Q_X3_, Q_X13_, fun h0_ => absurd ((hoff 20 (by kernel_rfl)).symm.trans h0_) (by decide), Q_X27_⟩
                  refine steps_cons ?_ ?_
                  · rintro b a w' ⟨v319, adz_v319, v324, adz_v324, v328, adz_v328, gb332, m3_, m13_, m20_, m27_, ha, Q_BK317, Q_HB, Q_HO320, Q_HA_HO320, Q_HO325, Q_HA_HO325, Q_HO329, Q_HA_HO329, Q_BK332, Q_GW332, Q_GE332, Q_NB317_332, Q_NB332_317, Q_BK332_e28, Q_X3_, Q_X13_, Q_X20_, Q_X27_⟩ hb_ hon hoff
                    refine ⟨_, rfl, fun K hK => ?_⟩
                    have e22 : a.tmps[22]? = some (.int .i64 (Go.bits .and .i64 (a0 / 32) 255)) := by rw [ha]; exact putSel_on (e := (18, 22, .int .i64 (Go.bits .and .i64 (a0 / 32) 255))) 14 rfl rfl (hon 18 (by kernel_rfl)) rfl
                    replace ha := Aside0.mk ha
                    have BK317 := Aside0.mk Q_BK317
                    have HB := Aside0.mk Q_HB
                    refine value_ (w1 := w') (v := .int .i64 ji8) (by rfl) rfl ?_ ?_
                    · go_simp
                      (try simp only [i64_w])
                      try rfl
                    refine hK.out _ _ ⟨v319, adz_v319, v324, adz_v324, v328, adz_v328, gb332, m3_, m13_, m20_, m27_, (by rw [ha.out]; exact putSel_upk 15 hb_ rfl rfl rfl), Q_BK317, Q_HB, Q_HO320, Q_HA_HO320, Q_HO325, Q_HA_HO325, Q_HO329, Q_HA_HO329, Q_BK332, Q_GW332, Q_GE332, Q_NB317_332, Q_NB332_317, fun h0_ => absurd ((hoff 28 (by kernel_rfl)).symm.trans h0_) (by decide), Q_X3_, Q_X13_, fun h0_ => absurd ((hoff 20 (by kernel_rfl)).symm.trans h0_) (by decide), Q_X27_⟩
                  refine steps_cons ?_ ?_
                  · rintro b a w' ⟨v319, adz_v319, v324, adz_v324, v328, adz_v328, gb332, m3_, m13_, m20_, m27_, ha, Q_BK317, Q_HB, Q_HO320, Q_HA_HO320, Q_HO325, Q_HA_HO325, Q_HO329, Q_HA_HO329, Q_BK332, Q_GW332, Q_GE332, Q_NB317_332, Q_NB332_317, Q_BK332_e28, Q_X3_, Q_X13_, Q_X20_, Q_X27_⟩ hb_ hon hoff
                    refine ⟨_, rfl, fun K hK => ?_⟩
                    have e19 : a.tmps[19]? = some (v328) := by rw [ha]; exact putSel_on (e := (15, 19, v328)) 12 rfl rfl (hon 15 (by kernel_rfl)) rfl
                    have e23 : a.tmps[23]? = some (.int .i64 ji8) := by rw [ha]; exact putSel_on (e := (19, 23, .int .i64 ji8)) 15 rfl rfl (hon 19 (by kernel_rfl)) rfl
                    replace ha := Aside0.mk ha
                    have BK317 := Aside0.mk Q_BK317
                    have HB := Aside0.mk Q_HB
                    have HO329 := Aside0.mk (Q_HO329 (hon 15 (by kernel_rfl)))
                    have HA_HO329 := Aside0.mk (Q_HA_HO329 (hon 15 (by kernel_rfl)))
                    obtain ⟨c_, hv_⟩ := HA_HO329.out
                    rw [hv_] at e19
                    refine value_ (w1 := w') (v := .pointer (some (adz_v328.add ((ji8)).toNat))) (by rfl) rfl ?_ ?_
                    · go_simp
                      (try simp only [i64_w])
                      try rfl
                    refine hK.out _ _ ⟨v319, adz_v319, v324, adz_v324, v328, adz_v328, gb332, m3_, m13_, (.pointer (some (adz_v328.add ((ji8)).toNat))), m27_, (by rw [ha.out]; exact putSel_upk 16 hb_ rfl rfl rfl), Q_BK317, Q_HB, Q_HO320, Q_HA_HO320, Q_HO325, Q_HA_HO325, Q_HO329, Q_HA_HO329, Q_BK332, Q_GW332, Q_GE332, Q_NB317_332, Q_NB332_317, fun h0_ => absurd ((hoff 28 (by kernel_rfl)).symm.trans h0_) (by decide), Q_X3_, Q_X13_, fun _ => rfl, Q_X27_⟩
                  refine steps_cons ?_ ?_
                  · rintro b a w' ⟨v319, adz_v319, v324, adz_v324, v328, adz_v328, gb332, m3_, m13_, m20_, m27_, ha, Q_BK317, Q_HB, Q_HO320, Q_HA_HO320, Q_HO325, Q_HA_HO325, Q_HO329, Q_HA_HO329, Q_BK332, Q_GW332, Q_GE332, Q_NB317_332, Q_NB332_317, Q_BK332_e28, Q_X3_, Q_X13_, Q_X20_, Q_X27_⟩ hb_ hon hoff
                    refine ⟨_, rfl, fun K hK => ?_⟩
                    have e24 : a.tmps[24]? = some (m20_) := by rw [ha]; exact putSel_on (e := (20, 24, m20_)) 16 rfl rfl (hon 20 (by kernel_rfl)) rfl
                    rw [Q_X20_ (hon 20 (by kernel_rfl))] at e24
                    replace ha := Aside0.mk ha
                    have BK317 := Aside0.mk Q_BK317
                    have HB := Aside0.mk Q_HB
                    have HO329 := Aside0.mk (Q_HO329 (hon 15 (by kernel_rfl)))
                    have HA_HO329 := Aside0.mk (Q_HA_HO329 (hon 15 (by kernel_rfl)))
                    obtain ⟨c_, hv_⟩ := HA_HO329.out
                    have hF_ := HO329.out
                    rw [hv_] at hF_
                    obtain ⟨ad_, ea_, hx_⟩ := Kd.at_string (Kd.R_reads' hF_).2.2 (ji8) (of_eq_true pi330) (of_eq_true qi330)
                    cases ea_
                    refine value_ (w1 := w') (v := .string (rdOf ByteArray.empty y327 (ji8))) (by rfl) rfl ?_ ?_
                    · go_simp
                      (try simp only [i64_w])
                      try rfl
                    refine hK.out _ _ ⟨v319, adz_v319, v324, adz_v324, v328, adz_v328, gb332, m3_, m13_, m20_, m27_, (by rw [ha.out]; exact putSel_upk 17 hb_ rfl rfl rfl), Q_BK317, Q_HB, Q_HO320, Q_HA_HO320, Q_HO325, Q_HA_HO325, Q_HO329, Q_HA_HO329, Q_BK332, Q_GW332, Q_GE332, Q_NB317_332, Q_NB332_317, fun h0_ => absurd ((hoff 28 (by kernel_rfl)).symm.trans h0_) (by decide), Q_X3_, Q_X13_, Q_X20_, Q_X27_⟩
                  refine steps_cons ?_ ?_
                  · rintro b a w' ⟨v319, adz_v319, v324, adz_v324, v328, adz_v328, gb332, m3_, m13_, m20_, m27_, ha, Q_BK317, Q_HB, Q_HO320, Q_HA_HO320, Q_HO325, Q_HA_HO325, Q_HO329, Q_HA_HO329, Q_BK332, Q_GW332, Q_GE332, Q_NB317_332, Q_NB332_317, Q_BK332_e28, Q_X3_, Q_X13_, Q_X20_, Q_X27_⟩ hb_ hon hoff
                    refine ⟨_, rfl, fun K hK => ?_⟩
                    have e26 : a.tmps[26]? = some (.int .i64 a0) := by rw [ha]; exact (putSel_off rfl).trans rfl
                    replace ha := Aside0.mk ha
                    have BK317 := Aside0.mk Q_BK317
                    have HB := Aside0.mk Q_HB
                    refine value_ (w1 := w') (v := .int .i64 (a0 / 8192)) (by rfl) rfl ?_ ?_
                    · go_simp
                      (try simp only [i64_w])
                      try rfl
                    refine hK.out _ _ ⟨v319, adz_v319, v324, adz_v324, v328, adz_v328, gb332, m3_, m13_, m20_, m27_, (by rw [ha.out]; exact putSel_upk 18 hb_ rfl rfl rfl), Q_BK317, Q_HB, Q_HO320, Q_HA_HO320, Q_HO325, Q_HA_HO325, Q_HO329, Q_HA_HO329, Q_BK332, Q_GW332, Q_GE332, Q_NB317_332, Q_NB332_317, fun h0_ => absurd ((hoff 28 (by kernel_rfl)).symm.trans h0_) (by decide), Q_X3_, Q_X13_, Q_X20_, Q_X27_⟩
                  refine steps_cons ?_ ?_
                  · rintro b a w' ⟨v319, adz_v319, v324, adz_v324, v328, adz_v328, gb332, m3_, m13_, m20_, m27_, ha, Q_BK317, Q_HB, Q_HO320, Q_HA_HO320, Q_HO325, Q_HA_HO325, Q_HO329, Q_HA_HO329, Q_BK332, Q_GW332, Q_GE332, Q_NB317_332, Q_NB332_317, Q_BK332_e28, Q_X3_, Q_X13_, Q_X20_, Q_X27_⟩ hb_ hon hoff
                    refine ⟨_, rfl, fun K hK => ?_⟩
                    have e27 : a.tmps[27]? = some (.int .i64 (a0 / 8192)) := by rw [ha]; exact putSel_on (e := (23, 27, .int .i64 (a0 / 8192))) 18 rfl rfl (hon 23 (by kernel_rfl)) rfl
                    replace ha := Aside0.mk ha
                    have BK317 := Aside0.mk Q_BK317
                    have HB := Aside0.mk Q_HB
                    refine goes_ Try.func15 (by kernel_rfl) rfl #[.int .i64 (a0 / 8192)] (by rfl) rfl rfl (by first | (simp only [List.map_toArray, List.map_cons, List.map_nil, Act.eval, Array.getD_eq_getD_getElem?, Option.getD_some, e27]; done) | (simp only [List.map_toArray, List.map_cons, List.map_nil, Act.eval, Array.getD_eq_getD_getElem?, Option.getD_some, e27]; rfl)) ?_
                    with_reducible refine (entaillaw1_Nm.calls (a0 / 8192) t331 _ A11.out).mono ?_
                    rintro e w50 ⟨rfl, hb⟩
                    refine ⟨_, rfl, ?_⟩
                    have n0_ := Aside0.mk (blk_below (g := gb317) (o := .cells #[.string (⟨#[]⟩ : ByteArray), .string (⟨#[]⟩ : ByteArray), .string (⟨#[]⟩ : ByteArray), .string (⟨#[]⟩ : ByteArray), .string (⟨#[]⟩ : ByteArray), .string (⟨#[]⟩ : ByteArray)] 29 (0, 0)) (by (with_reducible repeat (first | refine blk_drewN ?_ _ | refine blk_drew ?_ | refine blk_alloc ?_ _)); exact BK317.out) hb)
                    have n1_ := Aside0.mk (below_step (by repeat (first | (with_reducible first | exact HB.out | apply below_alloc | apply pw_below_drewN | apply below_drew1 | refine below_set ?_ GE317.out) | exact HB.out)) hb)
                    have z_HO320 := fun (h0_ : b 0 = true) => (show Kd.R Kd.string 9 w50 w.heap.size (fun _ => True) v319 y318 from by first | exact (Kd.R_below (by (with_reducible repeat (first | apply Kd.R_alloc | apply Kd.R_drewN | apply Kd.R_drew)); exact (Q_HO320 h0_)) hb) | exact Kd.R_mono (Kd.R_below (by (with_reducible repeat (first | apply Kd.R_alloc | apply Kd.R_drewN | apply Kd.R_drew)); exact (Q_HO320 h0_)) hb) (fun _ h_ => by first | trivial | exact h_ | exact h_.1))
                    have z_HO325 := fun (h0_ : b 9 = true) => (show Kd.R Kd.string 9 w50 w.heap.size (fun _ => True) v324 y323 from by first | exact (Kd.R_below (by (with_reducible repeat (first | apply Kd.R_alloc | apply Kd.R_drewN | apply Kd.R_drew)); exact (Q_HO325 h0_)) hb) | exact Kd.R_mono (Kd.R_below (by (with_reducible repeat (first | apply Kd.R_alloc | apply Kd.R_drewN | apply Kd.R_drew)); exact (Q_HO325 h0_)) hb) (fun _ h_ => by first | trivial | exact h_ | exact h_.1))
                    have z_HO329 := fun (h0_ : b 15 = true) => (show Kd.R Kd.string 9 w50 w.heap.size (fun _ => True) v328 y327 from by first | exact (Kd.R_below (by (with_reducible repeat (first | apply Kd.R_alloc | apply Kd.R_drewN | apply Kd.R_drew)); exact (Q_HO329 h0_)) hb) | exact Kd.R_mono (Kd.R_below (by (with_reducible repeat (first | apply Kd.R_alloc | apply Kd.R_drewN | apply Kd.R_drew)); exact (Q_HO329 h0_)) hb) (fun _ h_ => by first | trivial | exact h_ | exact h_.1))
                    have z_BK332 := fun (h0_ : b 27 = true) (h1_ : b 28 = false) => (show w50.heap[gb332]? = some (.cells #[.string (⟨#[]⟩ : ByteArray), .string (⟨#[]⟩ : ByteArray), .string (⟨#[]⟩ : ByteArray), .string (⟨#[]⟩ : ByteArray), .string (⟨#[]⟩ : ByteArray), .string (⟨#[]⟩ : ByteArray)] 29 (0, 0)) from by first | exact (blk_below (g := gb332) (o := .cells #[.string (⟨#[]⟩ : ByteArray), .string (⟨#[]⟩ : ByteArray), .string (⟨#[]⟩ : ByteArray), .string (⟨#[]⟩ : ByteArray), .string (⟨#[]⟩ : ByteArray), .string (⟨#[]⟩ : ByteArray)] 29 (0, 0)) (by (with_reducible repeat (first | refine blk_drewN ?_ _ | refine blk_drew ?_ | refine blk_alloc ?_ _)); exact (Q_BK332 h0_ h1_)) hb))
                    clear BK317
                    clear HB
                    have BK317 := n0_
                    have HB := n1_
                    clear n0_ n1_
                    (try clear hb)
                    (try clear hb2)
                    (try clear hk)
                    (try clear hi)
                    refine hK.out _ _ ⟨v319, adz_v319, v324, adz_v324, v328, adz_v328, gb332, m3_, m13_, m20_, m27_, (by rw [ha.out]; exact putSel_upk 19 hb_ rfl rfl rfl), (by (with_reducible repeat (first | refine blk_drewN ?_ _ | refine blk_drew ?_ | refine blk_alloc ?_ _)); exact BK317.out), (by repeat (first | (with_reducible first | exact HB.out | apply below_alloc | apply pw_below_drewN | apply below_drew1 | refine below_set ?_ GE317.out) | exact HB.out)), z_HO320, Q_HA_HO320, z_HO325, Q_HA_HO325, z_HO329, Q_HA_HO329, z_BK332, Q_GW332, Q_GE332, Q_NB317_332, Q_NB332_317, fun h0_ => absurd ((hoff 28 (by kernel_rfl)).symm.trans h0_) (by decide), Q_X3_, Q_X13_, Q_X20_, Q_X27_⟩
                  refine steps_cons ?_ ?_
                  · rintro b a w' ⟨v319, adz_v319, v324, adz_v324, v328, adz_v328, gb332, m3_, m13_, m20_, m27_, ha, Q_BK317, Q_HB, Q_HO320, Q_HA_HO320, Q_HO325, Q_HA_HO325, Q_HO329, Q_HA_HO329, Q_BK332, Q_GW332, Q_GE332, Q_NB317_332, Q_NB332_317, Q_BK332_e28, Q_X3_, Q_X13_, Q_X20_, Q_X27_⟩ hb_ hon hoff
                    refine ⟨_, rfl, fun K hK => ?_⟩
                    have e25 : a.tmps[25]? = some (.string (rdOf ByteArray.empty y327 (ji8))) := by rw [ha]; exact putSel_on (e := (21, 25, .string (rdOf ByteArray.empty y327 (ji8)))) 17 rfl rfl (hon 21 (by kernel_rfl)) rfl
                    have e28 : a.tmps[28]? = some (.string t331) := by rw [ha]; exact putSel_on (e := (24, 28, .string t331)) 19 rfl rfl (hon 24 (by kernel_rfl)) rfl
                    replace ha := Aside0.mk ha
                    have BK317 := Aside0.mk Q_BK317
                    have HB := Aside0.mk Q_HB
                    have HO329 := Aside0.mk (Q_HO329 (hon 15 (by kernel_rfl)))
                    have HA_HO329 := Aside0.mk (Q_HA_HO329 (hon 15 (by kernel_rfl)))
                    refine value_ (w1 := w') (v := .agg #[.string (rdOf ByteArray.empty y327 (ji8)), .string t331, .string (⟨#[]⟩ : ByteArray)]) (by rfl) rfl ?_ ?_
                    · go_simp
                      (try simp only [i64_w])
                      try rfl
                    refine hK.out _ _ ⟨v319, adz_v319, v324, adz_v324, v328, adz_v328, gb332, m3_, m13_, m20_, m27_, (by rw [ha.out]; exact putSel_upk 20 hb_ rfl rfl rfl), Q_BK317, Q_HB, Q_HO320, Q_HA_HO320, Q_HO325, Q_HA_HO325, Q_HO329, Q_HA_HO329, Q_BK332, Q_GW332, Q_GE332, Q_NB317_332, Q_NB332_317, fun h0_ => absurd ((hoff 28 (by kernel_rfl)).symm.trans h0_) (by decide), Q_X3_, Q_X13_, Q_X20_, Q_X27_⟩
                  refine steps_cons ?_ ?_
                  · rintro b a w' ⟨v319, adz_v319, v324, adz_v324, v328, adz_v328, gb332, m3_, m13_, m20_, m27_, ha, Q_BK317, Q_HB, Q_HO320, Q_HA_HO320, Q_HO325, Q_HA_HO325, Q_HO329, Q_HA_HO329, Q_BK332, Q_GW332, Q_GE332, Q_NB317_332, Q_NB332_317, Q_BK332_e28, Q_X3_, Q_X13_, Q_X20_, Q_X27_⟩ hb_ hon hoff
                    refine ⟨_, rfl, fun K hK => ?_⟩
                    have e12 : a.tmps[12]? = some (.agg #[.string (rdOf ByteArray.empty y318 (Go.bits .and .i64 a0 1)), .string t322]) := by rw [ha]; exact putSel_on (e := (8, 12, .agg #[.string (rdOf ByteArray.empty y318 (Go.bits .and .i64 a0 1)), .string t322])) 6 rfl rfl (hon 8 (by kernel_rfl)) rfl
                    have e18 : a.tmps[18]? = some (.string (rdOf ByteArray.empty y323 (ji5))) := by rw [ha]; exact putSel_on (e := (14, 18, .string (rdOf ByteArray.empty y323 (ji5)))) 11 rfl rfl (hon 14 (by kernel_rfl)) rfl
                    have e29 : a.tmps[29]? = some (.agg #[.string (rdOf ByteArray.empty y327 (ji8)), .string t331, .string (⟨#[]⟩ : ByteArray)]) := by rw [ha]; exact putSel_on (e := (25, 29, .agg #[.string (rdOf ByteArray.empty y327 (ji8)), .string t331, .string (⟨#[]⟩ : ByteArray)])) 20 rfl rfl (hon 25 (by kernel_rfl)) rfl
                    replace ha := Aside0.mk ha
                    have BK317 := Aside0.mk Q_BK317
                    have HB := Aside0.mk Q_HB
                    have HO320 := Aside0.mk (Q_HO320 (hon 0 (by kernel_rfl)))
                    have HA_HO320 := Aside0.mk (Q_HA_HO320 (hon 0 (by kernel_rfl)))
                    have HO325 := Aside0.mk (Q_HO325 (hon 9 (by kernel_rfl)))
                    have HA_HO325 := Aside0.mk (Q_HA_HO325 (hon 9 (by kernel_rfl)))
                    have HO329 := Aside0.mk (Q_HO329 (hon 15 (by kernel_rfl)))
                    have HA_HO329 := Aside0.mk (Q_HA_HO329 (hon 15 (by kernel_rfl)))
                    refine value_ (w1 := w') (v := .agg #[.string (rdOf ByteArray.empty y318 (Go.bits .and .i64 a0 1)), .string t322, .string (rdOf ByteArray.empty y323 (ji5)), .string (rdOf ByteArray.empty y327 (ji8)), .string t331, .string (⟨#[]⟩ : ByteArray)]) (by rfl) rfl ?_ ?_
                    · go_simp
                      (try simp only [i64_w])
                      try rfl
                    refine hK.out _ _ ⟨v319, adz_v319, v324, adz_v324, v328, adz_v328, gb332, m3_, m13_, m20_, m27_, (by rw [ha.out]; exact putSel_upk 21 hb_ rfl rfl rfl), Q_BK317, Q_HB, Q_HO320, Q_HA_HO320, Q_HO325, Q_HA_HO325, Q_HO329, Q_HA_HO329, Q_BK332, Q_GW332, Q_GE332, Q_NB317_332, Q_NB332_317, fun h0_ => absurd ((hoff 28 (by kernel_rfl)).symm.trans h0_) (by decide), Q_X3_, Q_X13_, Q_X20_, Q_X27_⟩
                  refine steps_cons ?_ ?_
                  · rintro b a w' ⟨v319, adz_v319, v324, adz_v324, v328, adz_v328, gb332, m3_, m13_, m20_, m27_, ha, Q_BK317, Q_HB, Q_HO320, Q_HA_HO320, Q_HO325, Q_HA_HO325, Q_HO329, Q_HA_HO329, Q_BK332, Q_GW332, Q_GE332, Q_NB317_332, Q_NB332_317, Q_BK332_e28, Q_X3_, Q_X13_, Q_X20_, Q_X27_⟩ hb_ hon hoff
                    refine ⟨_, rfl, fun K hK => ?_⟩
                    replace ha := Aside0.mk ha
                    have BK317 := Aside0.mk Q_BK317
                    have HB := Aside0.mk Q_HB
                    refine box_step ?hg (N := 3) ?hd (cs := #[.string (⟨#[]⟩ : ByteArray), .string (⟨#[]⟩ : ByteArray), .string (⟨#[]⟩ : ByteArray), .string (⟨#[]⟩ : ByteArray), .string (⟨#[]⟩ : ByteArray), .string (⟨#[]⟩ : ByteArray)]) (t := 29) ?hr ?_; (case hd => rfl); (case hg => rfl); (case hr => first | (go_simp; done) | (go_simp; rfl))
                    intro gb332 hg w48 hbox hb
                    have n0_ := Aside0.mk (blk_below (g := gb317) (o := .cells #[.string (⟨#[]⟩ : ByteArray), .string (⟨#[]⟩ : ByteArray), .string (⟨#[]⟩ : ByteArray), .string (⟨#[]⟩ : ByteArray), .string (⟨#[]⟩ : ByteArray), .string (⟨#[]⟩ : ByteArray)] 29 (0, 0)) (by (with_reducible repeat (first | refine blk_drewN ?_ _ | refine blk_drew ?_ | refine blk_alloc ?_ _)); exact BK317.out) hb)
                    have n1_ := Aside0.mk (below_step (by repeat (first | (with_reducible first | exact HB.out | apply below_alloc | apply pw_below_drewN | apply below_drew1 | refine below_set ?_ GE317.out) | exact HB.out)) hb)
                    have n2_ := Aside0.mk (hbox)
                    have n3_ := Aside0.mk ((by rw [hg]; exact (below_size (by repeat (first | (with_reducible first | exact HB.out | apply below_alloc | apply pw_below_drewN | apply below_drew1 | refine below_set ?_ GE317.out) | exact HB.out))) : w.heap.size ≤ gb332))
                    have n4_ := Aside0.mk ((by rw [hg]; exact (below_size (by repeat (first | (with_reducible first | exact HB.out | apply below_alloc | apply pw_below_drewN | apply below_drew1 | refine below_set ?_ GE317.out) | exact HB.out))) : w.heap.size ≤ gb332))
                    have n5_ := Aside0.mk ((by rw [hg]; exact Nat.ne_of_lt (blk_lt (g := gb317) (o := .cells #[.string (⟨#[]⟩ : ByteArray), .string (⟨#[]⟩ : ByteArray), .string (⟨#[]⟩ : ByteArray), .string (⟨#[]⟩ : ByteArray), .string (⟨#[]⟩ : ByteArray), .string (⟨#[]⟩ : ByteArray)] 29 (0, 0)) (by (with_reducible repeat (first | refine blk_drewN ?_ _ | refine blk_drew ?_ | refine blk_alloc ?_ _)); exact BK317.out)) : gb317 ≠ gb332))
                    have n6_ := Aside0.mk ((by rw [hg]; exact Nat.ne_of_gt (blk_lt (g := gb317) (o := .cells #[.string (⟨#[]⟩ : ByteArray), .string (⟨#[]⟩ : ByteArray), .string (⟨#[]⟩ : ByteArray), .string (⟨#[]⟩ : ByteArray), .string (⟨#[]⟩ : ByteArray), .string (⟨#[]⟩ : ByteArray)] 29 (0, 0)) (by (with_reducible repeat (first | refine blk_drewN ?_ _ | refine blk_drew ?_ | refine blk_alloc ?_ _)); exact BK317.out)) : gb332 ≠ gb317))
                    have z_HO320 := fun (h0_ : b 0 = true) => (show Kd.R Kd.string 9 w48 w.heap.size (fun _ => True) v319 y318 from by first | exact (Kd.R_below (by (with_reducible repeat (first | apply Kd.R_alloc | apply Kd.R_drewN | apply Kd.R_drew)); exact (Q_HO320 h0_)) hb) | exact Kd.R_mono (Kd.R_below (by (with_reducible repeat (first | apply Kd.R_alloc | apply Kd.R_drewN | apply Kd.R_drew)); exact (Q_HO320 h0_)) hb) (fun _ h_ => by first | trivial | exact h_ | exact h_.1))
                    have z_HO325 := fun (h0_ : b 9 = true) => (show Kd.R Kd.string 9 w48 w.heap.size (fun _ => True) v324 y323 from by first | exact (Kd.R_below (by (with_reducible repeat (first | apply Kd.R_alloc | apply Kd.R_drewN | apply Kd.R_drew)); exact (Q_HO325 h0_)) hb) | exact Kd.R_mono (Kd.R_below (by (with_reducible repeat (first | apply Kd.R_alloc | apply Kd.R_drewN | apply Kd.R_drew)); exact (Q_HO325 h0_)) hb) (fun _ h_ => by first | trivial | exact h_ | exact h_.1))
                    have z_HO329 := fun (h0_ : b 15 = true) => (show Kd.R Kd.string 9 w48 w.heap.size (fun _ => True) v328 y327 from by first | exact (Kd.R_below (by (with_reducible repeat (first | apply Kd.R_alloc | apply Kd.R_drewN | apply Kd.R_drew)); exact (Q_HO329 h0_)) hb) | exact Kd.R_mono (Kd.R_below (by (with_reducible repeat (first | apply Kd.R_alloc | apply Kd.R_drewN | apply Kd.R_drew)); exact (Q_HO329 h0_)) hb) (fun _ h_ => by first | trivial | exact h_ | exact h_.1))
                    clear BK317
                    clear HB
                    have BK317 := n0_
                    have HB := n1_
                    have BK332 := n2_
                    have GW332 := n3_
                    have GE332 := n4_
                    have NB317_332 := n5_
                    have NB332_317 := n6_
                    clear n0_ n1_ n2_ n3_ n4_ n5_ n6_
                    clear hb hbox hg
                    refine hK.out _ _ ⟨v319, adz_v319, v324, adz_v324, v328, adz_v328, gb332, m3_, m13_, m20_, (.pointer (some ⟨gb332, 0, none⟩)), (by rw [ha.out]; exact putSel_upk 22 hb_ rfl rfl rfl), (by (with_reducible repeat (first | refine blk_drewN ?_ _ | refine blk_drew ?_ | refine blk_alloc ?_ _)); exact BK317.out), (by repeat (first | (with_reducible first | exact HB.out | apply below_alloc | apply pw_below_drewN | apply below_drew1 | refine below_set ?_ GE317.out | refine below_set ?_ GE332.out) | exact HB.out)), z_HO320, Q_HA_HO320, z_HO325, Q_HA_HO325, z_HO329, Q_HA_HO329, fun _ _ => (by (with_reducible repeat (first | refine blk_drewN ?_ _ | refine blk_drew ?_ | refine blk_alloc ?_ _)); exact BK332.out), fun _ => GW332.out, fun _ => GE332.out, fun _ => NB317_332.out, fun _ => NB332_317.out, fun h0_ => absurd ((hoff 28 (by kernel_rfl)).symm.trans h0_) (by decide), Q_X3_, Q_X13_, Q_X20_, fun _ => rfl⟩
                  refine steps_cons ?_ ?_
                  · rintro b a w' ⟨v319, adz_v319, v324, adz_v324, v328, adz_v328, gb332, m3_, m13_, m20_, m27_, ha, Q_BK317, Q_HB, Q_HO320, Q_HA_HO320, Q_HO325, Q_HA_HO325, Q_HO329, Q_HA_HO329, Q_BK332, Q_GW332, Q_GE332, Q_NB317_332, Q_NB332_317, Q_BK332_e28, Q_X3_, Q_X13_, Q_X20_, Q_X27_⟩ hb_ hon hoff
                    refine ⟨_, rfl, fun K hK => ?_⟩
                    have e3 : a.tmps[3]? = some (m27_) := by rw [ha]; exact putSel_on (e := (27, 3, m27_)) 22 rfl rfl (hon 27 (by kernel_rfl)) rfl
                    rw [Q_X27_ (hon 27 (by kernel_rfl))] at e3
                    have e30 : a.tmps[30]? = some (.agg #[.string (rdOf ByteArray.empty y318 (Go.bits .and .i64 a0 1)), .string t322, .string (rdOf ByteArray.empty y323 (ji5)), .string (rdOf ByteArray.empty y327 (ji8)), .string t331, .string (⟨#[]⟩ : ByteArray)]) := by rw [ha]; exact putSel_on (e := (26, 30, .agg #[.string (rdOf ByteArray.empty y318 (Go.bits .and .i64 a0 1)), .string t322, .string (rdOf ByteArray.empty y323 (ji5)), .string (rdOf ByteArray.empty y327 (ji8)), .string t331, .string (⟨#[]⟩ : ByteArray)])) 21 rfl rfl (hon 26 (by kernel_rfl)) rfl
                    replace ha := Aside0.mk ha
                    have BK317 := Aside0.mk Q_BK317
                    have HB := Aside0.mk Q_HB
                    have HO320 := Aside0.mk (Q_HO320 (hon 0 (by kernel_rfl)))
                    have HA_HO320 := Aside0.mk (Q_HA_HO320 (hon 0 (by kernel_rfl)))
                    have HO325 := Aside0.mk (Q_HO325 (hon 9 (by kernel_rfl)))
                    have HA_HO325 := Aside0.mk (Q_HA_HO325 (hon 9 (by kernel_rfl)))
                    have HO329 := Aside0.mk (Q_HO329 (hon 15 (by kernel_rfl)))
                    have HA_HO329 := Aside0.mk (Q_HA_HO329 (hon 15 (by kernel_rfl)))
                    have BK332 := Aside0.mk (Q_BK332 (hon 27 (by kernel_rfl)) hb_)
                    have GW332 := Aside0.mk (Q_GW332 (hon 27 (by kernel_rfl)))
                    have GE332 := Aside0.mk (Q_GE332 (hon 27 (by kernel_rfl)))
                    have NB317_332 := Aside0.mk (Q_NB317_332 (hon 27 (by kernel_rfl)))
                    have NB332_317 := Aside0.mk (Q_NB332_317 (hon 27 (by kernel_rfl)))
                    obtain ⟨co61, eo61⟩ := HA_HO320.out
                    clear HA_HO320
                    subst eo61
                    obtain ⟨co62, eo62⟩ := HA_HO325.out
                    clear HA_HO325
                    subst eo62
                    obtain ⟨co63, eo63⟩ := HA_HO329.out
                    clear HA_HO329
                    subst eo63
                    have hs64 : w'.cell? ⟨gb332, 0, none⟩ = some (.string (⟨#[]⟩ : ByteArray)) := (blk_cell BK332.out 0).trans rfl
                    have hfs64 := blk_frozen BK332.out 0
                    have hns64_0 := NB317_332.out
                    have hms64_0 := NB332_317.out
                    have hs65 : w'.cell? ⟨gb332, 1, none⟩ = some (.string (⟨#[]⟩ : ByteArray)) := (blk_cell BK332.out 1).trans rfl
                    have hfs65 := blk_frozen BK332.out 1
                    have hns65_0 := NB317_332.out
                    have hms65_0 := NB332_317.out
                    have hs66 : w'.cell? ⟨gb332, 2, none⟩ = some (.string (⟨#[]⟩ : ByteArray)) := (blk_cell BK332.out 2).trans rfl
                    have hfs66 := blk_frozen BK332.out 2
                    have hns66_0 := NB317_332.out
                    have hms66_0 := NB332_317.out
                    have hs67 : w'.cell? ⟨gb332, 3, none⟩ = some (.string (⟨#[]⟩ : ByteArray)) := (blk_cell BK332.out 3).trans rfl
                    have hfs67 := blk_frozen BK332.out 3
                    have hns67_0 := NB317_332.out
                    have hms67_0 := NB332_317.out
                    have hs68 : w'.cell? ⟨gb332, 4, none⟩ = some (.string (⟨#[]⟩ : ByteArray)) := (blk_cell BK332.out 4).trans rfl
                    have hfs68 := blk_frozen BK332.out 4
                    have hns68_0 := NB317_332.out
                    have hms68_0 := NB332_317.out
                    have hs69 : w'.cell? ⟨gb332, 5, none⟩ = some (.string (⟨#[]⟩ : ByteArray)) := (blk_cell BK332.out 5).trans rfl
                    have hfs69 := blk_frozen BK332.out 5
                    have hns69_0 := NB317_332.out
                    have hms69_0 := NB332_317.out
                    refine skip_ (w1 := ?_) (by rfl) rfl ?_ ?_
                    rotate_left
                    · go_simp
                      rfl
                    refine hK.out _ _ ⟨.slice (some adz_v319) y318.length co61, adz_v319, .slice (some adz_v324) y323.length co62, adz_v324, .slice (some adz_v328) y327.length co63, adz_v328, gb332, m3_, m13_, m20_, m27_, (by rw [ha.out]; exact putSel_none (v := undef) rfl), (by (with_reducible repeat (first | refine blk_drewN ?_ _ | refine blk_drew ?_ | refine blk_alloc ?_ _)); refine blk_far ?_ NB317_332.out _; (with_reducible repeat (first | refine blk_drewN ?_ _ | refine blk_drew ?_ | refine blk_alloc ?_ _)); refine blk_far ?_ NB317_332.out _; (with_reducible repeat (first | refine blk_drewN ?_ _ | refine blk_drew ?_ | refine blk_alloc ?_ _)); refine blk_far ?_ NB317_332.out _; (with_reducible repeat (first | refine blk_drewN ?_ _ | refine blk_drew ?_ | refine blk_alloc ?_ _)); refine blk_far ?_ NB317_332.out _; (with_reducible repeat (first | refine blk_drewN ?_ _ | refine blk_drew ?_ | refine blk_alloc ?_ _)); refine blk_far ?_ NB317_332.out _; (with_reducible repeat (first | refine blk_drewN ?_ _ | refine blk_drew ?_ | refine blk_alloc ?_ _)); refine blk_far ?_ NB317_332.out _; (with_reducible repeat (first | refine blk_drewN ?_ _ | refine blk_drew ?_ | refine blk_alloc ?_ _)); exact BK317.out), (by repeat (first | (with_reducible first | exact HB.out | apply below_alloc | apply pw_below_drewN | apply below_drew1 | refine below_set ?_ GE317.out | refine below_set ?_ GE332.out) | exact HB.out)), fun _ => (by (with_reducible repeat (first | apply Kd.R_alloc | apply Kd.R_drewN | apply Kd.R_drew)); exact Kd.R_mono (Kd.R_far (p := ⟨gb332, 5, none⟩) (Kd.R_far (p := ⟨gb332, 4, none⟩) (Kd.R_far (p := ⟨gb332, 3, none⟩) (Kd.R_far (p := ⟨gb332, 2, none⟩) (Kd.R_far (p := ⟨gb332, 1, none⟩) (Kd.R_far (p := ⟨gb332, 0, none⟩) (Kd.R_types HO320.out BK332.out (by decide)) (fun _ hk => hk.2) (.string (rdOf ByteArray.empty y318 (Go.bits .and .i64 a0 1)))) (fun _ hk => hk.2) (.string t322)) (fun _ hk => hk.2) (.string (rdOf ByteArray.empty y323 (ji5)))) (fun _ hk => hk.2) (.string (rdOf ByteArray.empty y327 (ji8)))) (fun _ hk => hk.2) (.string t331)) (fun _ hk => hk.2) (.string (⟨#[]⟩ : ByteArray))) (fun _ hk => by first | exact ⟨hk.1.1, hk.1.2⟩ | trivial)), fun _ => ⟨_, rfl⟩, fun _ => (by (with_reducible repeat (first | apply Kd.R_alloc | apply Kd.R_drewN | apply Kd.R_drew)); exact Kd.R_mono (Kd.R_far (p := ⟨gb332, 5, none⟩) (Kd.R_far (p := ⟨gb332, 4, none⟩) (Kd.R_far (p := ⟨gb332, 3, none⟩) (Kd.R_far (p := ⟨gb332, 2, none⟩) (Kd.R_far (p := ⟨gb332, 1, none⟩) (Kd.R_far (p := ⟨gb332, 0, none⟩) (Kd.R_types HO325.out BK332.out (by decide)) (fun _ hk => hk.2) (.string (rdOf ByteArray.empty y318 (Go.bits .and .i64 a0 1)))) (fun _ hk => hk.2) (.string t322)) (fun _ hk => hk.2) (.string (rdOf ByteArray.empty y323 (ji5)))) (fun _ hk => hk.2) (.string (rdOf ByteArray.empty y327 (ji8)))) (fun _ hk => hk.2) (.string t331)) (fun _ hk => hk.2) (.string (⟨#[]⟩ : ByteArray))) (fun _ hk => by first | exact ⟨hk.1.1, hk.1.2⟩ | trivial)), fun _ => ⟨_, rfl⟩, fun _ => (by (with_reducible repeat (first | apply Kd.R_alloc | apply Kd.R_drewN | apply Kd.R_drew)); exact Kd.R_mono (Kd.R_far (p := ⟨gb332, 5, none⟩) (Kd.R_far (p := ⟨gb332, 4, none⟩) (Kd.R_far (p := ⟨gb332, 3, none⟩) (Kd.R_far (p := ⟨gb332, 2, none⟩) (Kd.R_far (p := ⟨gb332, 1, none⟩) (Kd.R_far (p := ⟨gb332, 0, none⟩) (Kd.R_types HO329.out BK332.out (by decide)) (fun _ hk => hk.2) (.string (rdOf ByteArray.empty y318 (Go.bits .and .i64 a0 1)))) (fun _ hk => hk.2) (.string t322)) (fun _ hk => hk.2) (.string (rdOf ByteArray.empty y323 (ji5)))) (fun _ hk => hk.2) (.string (rdOf ByteArray.empty y327 (ji8)))) (fun _ hk => hk.2) (.string t331)) (fun _ hk => hk.2) (.string (⟨#[]⟩ : ByteArray))) (fun _ hk => by first | exact ⟨hk.1.1, hk.1.2⟩ | trivial)), fun _ => ⟨_, rfl⟩, fun _ h1_ => absurd ((up_self b 28).symm.trans h1_) (by decide), fun _ => GW332.out, fun _ => GE332.out, fun _ => NB317_332.out, fun _ => NB332_317.out, fun _ => (by (with_reducible repeat (first | refine blk_drewN ?_ _ | refine blk_drew ?_ | refine blk_alloc ?_ _)); refine blk_put (cs := #[.string (rdOf ByteArray.empty y318 (Go.bits .and .i64 a0 1)), .string t322, .string (rdOf ByteArray.empty y323 (ji5)), .string (rdOf ByteArray.empty y327 (ji8)), .string t331, .string (⟨#[]⟩ : ByteArray)]) ?_ 5 _ rfl; (with_reducible repeat (first | refine blk_drewN ?_ _ | refine blk_drew ?_ | refine blk_alloc ?_ _)); refine blk_put (cs := #[.string (rdOf ByteArray.empty y318 (Go.bits .and .i64 a0 1)), .string t322, .string (rdOf ByteArray.empty y323 (ji5)), .string (rdOf ByteArray.empty y327 (ji8)), .string (⟨#[]⟩ : ByteArray), .string (⟨#[]⟩ : ByteArray)]) ?_ 4 _ rfl; (with_reducible repeat (first | refine blk_drewN ?_ _ | refine blk_drew ?_ | refine blk_alloc ?_ _)); refine blk_put (cs := #[.string (rdOf ByteArray.empty y318 (Go.bits .and .i64 a0 1)), .string t322, .string (rdOf ByteArray.empty y323 (ji5)), .string (⟨#[]⟩ : ByteArray), .string (⟨#[]⟩ : ByteArray), .string (⟨#[]⟩ : ByteArray)]) ?_ 3 _ rfl; (with_reducible repeat (first | refine blk_drewN ?_ _ | refine blk_drew ?_ | refine blk_alloc ?_ _)); refine blk_put (cs := #[.string (rdOf ByteArray.empty y318 (Go.bits .and .i64 a0 1)), .string t322, .string (⟨#[]⟩ : ByteArray), .string (⟨#[]⟩ : ByteArray), .string (⟨#[]⟩ : ByteArray), .string (⟨#[]⟩ : ByteArray)]) ?_ 2 _ rfl; (with_reducible repeat (first | refine blk_drewN ?_ _ | refine blk_drew ?_ | refine blk_alloc ?_ _)); refine blk_put (cs := #[.string (rdOf ByteArray.empty y318 (Go.bits .and .i64 a0 1)), .string (⟨#[]⟩ : ByteArray), .string (⟨#[]⟩ : ByteArray), .string (⟨#[]⟩ : ByteArray), .string (⟨#[]⟩ : ByteArray), .string (⟨#[]⟩ : ByteArray)]) ?_ 1 _ rfl; (with_reducible repeat (first | refine blk_drewN ?_ _ | refine blk_drew ?_ | refine blk_alloc ?_ _)); refine blk_put (cs := #[.string (⟨#[]⟩ : ByteArray), .string (⟨#[]⟩ : ByteArray), .string (⟨#[]⟩ : ByteArray), .string (⟨#[]⟩ : ByteArray), .string (⟨#[]⟩ : ByteArray), .string (⟨#[]⟩ : ByteArray)]) ?_ 0 _ rfl; (with_reducible repeat (first | refine blk_drewN ?_ _ | refine blk_drew ?_ | refine blk_alloc ?_ _)); exact BK332.out), Q_X3_, Q_X13_, Q_X20_, Q_X27_⟩
                  exact steps_nil
                rintro b a w66 hall ⟨v319, adz_v319, v324, adz_v324, v328, adz_v328, gb332, m3_, m13_, m20_, m27_, ha, Q_BK317, Q_HB, Q_HO320, Q_HA_HO320, Q_HO325, Q_HA_HO325, Q_HO329, Q_HA_HO329, Q_BK332, Q_GW332, Q_GE332, Q_NB317_332, Q_NB332_317, Q_BK332_e28, Q_X3_, Q_X13_, Q_X20_, Q_X27_⟩
                clear BK317 HB
                have hb0_ := hall 0 (by kernel_rfl)
                have hb2_ := hall 2 (by kernel_rfl)
                have hb3_ := hall 3 (by kernel_rfl)
                have hb4_ := hall 4 (by kernel_rfl)
                have hb6_ := hall 6 (by kernel_rfl)
                have hb7_ := hall 7 (by kernel_rfl)
                have hb8_ := hall 8 (by kernel_rfl)
                have hb9_ := hall 9 (by kernel_rfl)
                have hb11_ := hall 11 (by kernel_rfl)
                have hb12_ := hall 12 (by kernel_rfl)
                have hb13_ := hall 13 (by kernel_rfl)
                have hb14_ := hall 14 (by kernel_rfl)
                have hb15_ := hall 15 (by kernel_rfl)
                have hb17_ := hall 17 (by kernel_rfl)
                have hb18_ := hall 18 (by kernel_rfl)
                have hb19_ := hall 19 (by kernel_rfl)
                have hb20_ := hall 20 (by kernel_rfl)
                have hb21_ := hall 21 (by kernel_rfl)
                have hb23_ := hall 23 (by kernel_rfl)
                have hb24_ := hall 24 (by kernel_rfl)
                have hb25_ := hall 25 (by kernel_rfl)
                have hb26_ := hall 26 (by kernel_rfl)
                have hb27_ := hall 27 (by kernel_rfl)
                have hb28_ := hall 28 (by kernel_rfl)
                subst ha
                obtain rfl := Q_X3_ hb3_
                obtain rfl := Q_X13_ hb13_
                obtain rfl := Q_X20_ hb20_
                obtain rfl := Q_X27_ hb27_
                simp only [putSel, hb0_, hb2_, hb3_, hb4_, hb6_, hb7_, hb8_, hb9_, hb11_, hb12_, hb13_, hb14_, hb15_, hb17_, hb18_, hb19_, hb20_, hb21_, hb23_, hb24_, hb25_, hb26_, hb27_, hb28_, if_true, Act.put, List.setIfInBounds_toArray, List.set_cons_zero, List.set_cons_succ]
                have BK317 := Aside0.mk Q_BK317
                clear Q_BK317
                have HB := Aside0.mk Q_HB
                clear Q_HB
                have HO320 := Aside0.mk (Q_HO320 hb0_)
                clear Q_HO320
                have HA_HO320 := Aside0.mk (Q_HA_HO320 hb0_)
                clear Q_HA_HO320
                have HO325 := Aside0.mk (Q_HO325 hb9_)
                clear Q_HO325
                have HA_HO325 := Aside0.mk (Q_HA_HO325 hb9_)
                clear Q_HA_HO325
                have HO329 := Aside0.mk (Q_HO329 hb15_)
                clear Q_HO329
                have HA_HO329 := Aside0.mk (Q_HA_HO329 hb15_)
                clear Q_HA_HO329
                clear Q_BK332
                have GW332 := Aside0.mk (Q_GW332 hb27_)
                clear Q_GW332
                have GE332 := Aside0.mk (Q_GE332 hb27_)
                clear Q_GE332
                have NB317_332 := Aside0.mk (Q_NB317_332 hb27_)
                clear Q_NB317_332
                have NB332_317 := Aside0.mk (Q_NB332_317 hb27_)
                clear Q_NB332_317
                have BK332 := Aside0.mk (Q_BK332_e28 hb28_)
                clear Q_BK332_e28
                clear hall hb0_ hb2_ hb3_ hb4_ hb6_ hb7_ hb8_ hb9_ hb11_ hb12_ hb13_ hb14_ hb15_ hb17_ hb18_ hb19_ hb20_ hb21_ hb23_ hb24_ hb25_ hb26_ hb27_ hb28_
                obtain ⟨co67, eo67⟩ := HA_HO320.out
                clear HA_HO320
                subst eo67
                obtain ⟨co68, eo68⟩ := HA_HO325.out
                clear HA_HO325
                subst eo68
                obtain ⟨co69, eo69⟩ := HA_HO329.out
                clear HA_HO329
                subst eo69
                have hnb70 := NB332_317.out
                have hnc70 := NB317_332.out
                have hcz71_0 : w66.cell? ⟨gb332, 0, none⟩ = some (.string (rdOf ByteArray.empty y318 (Go.bits .and .i64 a0 1))) := (blk_cell BK332.out 0).trans rfl
                have hcz71_1 : w66.cell? ⟨gb332, 1, none⟩ = some (.string t322) := (blk_cell BK332.out 1).trans rfl
                have hcz71_2 : w66.cell? ⟨gb332, 2, none⟩ = some (.string (rdOf ByteArray.empty y323 (ji5))) := (blk_cell BK332.out 2).trans rfl
                have hcz71_3 : w66.cell? ⟨gb332, 3, none⟩ = some (.string (rdOf ByteArray.empty y327 (ji8))) := (blk_cell BK332.out 3).trans rfl
                have hcz71_4 : w66.cell? ⟨gb332, 4, none⟩ = some (.string t331) := (blk_cell BK332.out 4).trans rfl
                have hcz71_5 : w66.cell? ⟨gb332, 5, none⟩ = some (.string (⟨#[]⟩ : ByteArray)) := (blk_cell BK332.out 5).trans rfl
                have hfz71_0 := blk_frozen BK332.out 0
                have hfz71_1 := blk_frozen BK332.out 1
                have hfz71_2 := blk_frozen BK332.out 2
                have hfz71_3 := blk_frozen BK332.out 3
                have hfz71_4 := blk_frozen BK332.out 4
                have hfz71_5 := blk_frozen BK332.out 5
                have hcz72_0 : w66.cell? ⟨gb317, 0, none⟩ = some (.string (⟨#[]⟩ : ByteArray)) := (blk_cell BK317.out 0).trans rfl
                have hcz72_1 : w66.cell? ⟨gb317, 1, none⟩ = some (.string (⟨#[]⟩ : ByteArray)) := (blk_cell BK317.out 1).trans rfl
                have hcz72_2 : w66.cell? ⟨gb317, 2, none⟩ = some (.string (⟨#[]⟩ : ByteArray)) := (blk_cell BK317.out 2).trans rfl
                have hcz72_3 : w66.cell? ⟨gb317, 3, none⟩ = some (.string (⟨#[]⟩ : ByteArray)) := (blk_cell BK317.out 3).trans rfl
                have hcz72_4 : w66.cell? ⟨gb317, 4, none⟩ = some (.string (⟨#[]⟩ : ByteArray)) := (blk_cell BK317.out 4).trans rfl
                have hcz72_5 : w66.cell? ⟨gb317, 5, none⟩ = some (.string (⟨#[]⟩ : ByteArray)) := (blk_cell BK317.out 5).trans rfl
                have hfz72_0 := blk_frozen BK317.out 0
                have hfz72_1 := blk_frozen BK317.out 1
                have hfz72_2 := blk_frozen BK317.out 2
                have hfz72_3 := blk_frozen BK317.out 3
                have hfz72_4 := blk_frozen BK317.out 4
                have hfz72_5 := blk_frozen BK317.out 5
                try go_wp2
                refine bodyPost_ret (results_cell_row rfl _ _ gb317 29 #[.string (rdOf ByteArray.empty y318 (Go.bits .and .i64 a0 1)), .string t322, .string (rdOf ByteArray.empty y323 (ji5)), .string (rdOf ByteArray.empty y327 (ji8)), .string t331, .string (⟨#[]⟩ : ByteArray)] (0, 0) _ rfl (by (with_reducible repeat (first | refine blk_drewN ?_ _ | refine blk_drew ?_ | refine blk_alloc ?_ _)); refine blk_put (cs := #[.string (rdOf ByteArray.empty y318 (Go.bits .and .i64 a0 1)), .string t322, .string (rdOf ByteArray.empty y323 (ji5)), .string (rdOf ByteArray.empty y327 (ji8)), .string t331, .string (⟨#[]⟩ : ByteArray)]) ?_ 5 _ rfl; (with_reducible repeat (first | refine blk_drewN ?_ _ | refine blk_drew ?_ | refine blk_alloc ?_ _)); refine blk_put (cs := #[.string (rdOf ByteArray.empty y318 (Go.bits .and .i64 a0 1)), .string t322, .string (rdOf ByteArray.empty y323 (ji5)), .string (rdOf ByteArray.empty y327 (ji8)), .string (⟨#[]⟩ : ByteArray), .string (⟨#[]⟩ : ByteArray)]) ?_ 4 _ rfl; (with_reducible repeat (first | refine blk_drewN ?_ _ | refine blk_drew ?_ | refine blk_alloc ?_ _)); refine blk_put (cs := #[.string (rdOf ByteArray.empty y318 (Go.bits .and .i64 a0 1)), .string t322, .string (rdOf ByteArray.empty y323 (ji5)), .string (⟨#[]⟩ : ByteArray), .string (⟨#[]⟩ : ByteArray), .string (⟨#[]⟩ : ByteArray)]) ?_ 3 _ rfl; (with_reducible repeat (first | refine blk_drewN ?_ _ | refine blk_drew ?_ | refine blk_alloc ?_ _)); refine blk_put (cs := #[.string (rdOf ByteArray.empty y318 (Go.bits .and .i64 a0 1)), .string t322, .string (⟨#[]⟩ : ByteArray), .string (⟨#[]⟩ : ByteArray), .string (⟨#[]⟩ : ByteArray), .string (⟨#[]⟩ : ByteArray)]) ?_ 2 _ rfl; (with_reducible repeat (first | refine blk_drewN ?_ _ | refine blk_drew ?_ | refine blk_alloc ?_ _)); refine blk_put (cs := #[.string (rdOf ByteArray.empty y318 (Go.bits .and .i64 a0 1)), .string (⟨#[]⟩ : ByteArray), .string (⟨#[]⟩ : ByteArray), .string (⟨#[]⟩ : ByteArray), .string (⟨#[]⟩ : ByteArray), .string (⟨#[]⟩ : ByteArray)]) ?_ 1 _ rfl; (with_reducible repeat (first | refine blk_drewN ?_ _ | refine blk_drew ?_ | refine blk_alloc ?_ _)); refine blk_put (cs := #[.string (⟨#[]⟩ : ByteArray), .string (⟨#[]⟩ : ByteArray), .string (⟨#[]⟩ : ByteArray), .string (⟨#[]⟩ : ByteArray), .string (⟨#[]⟩ : ByteArray), .string (⟨#[]⟩ : ByteArray)]) ?_ 0 _ rfl; (with_reducible repeat (first | refine blk_drewN ?_ _ | refine blk_drew ?_ | refine blk_alloc ?_ _)); exact BK317.out) Try.underlying29 rfl (by kernel_rfl)) rfl ?_
                exact ⟨by first | rfl | (simp [errW_none, errW_some] <;> rfl) | (simp only [← hji5, ← hji8]; first | rfl | (simp [errW_none, errW_some] <;> rfl)) | (simp [*, errW_none, errW_some] <;> rfl), by repeat (first | (with_reducible first | exact HB.out | apply below_alloc | apply pw_below_drewN | apply below_drew1 | refine below_set ?_ GE317.out | refine below_set ?_ GE332.out) | exact HB.out)⟩
            · rw [if_neg c10] at H
              exact absurd H (by simp)
          · rw [if_neg c9] at H
            exact absurd H (by simp)
        · rw [if_neg c7] at H
          exact absurd H (by simp)
      · rw [if_neg c6] at H
        exact absurd H (by simp)
    · rw [if_neg c3] at H
      exact absurd H (by simp)
  · rw [if_neg c2] at H
    exact absurd H (by simp)

end Go.Proofs.Ytjmlloiolppoiaa.P
