/- Functions of the given program as plain Lean functions, and their contracts: written by a program of the prover. -/
import Derived.Test.YtjgjcbhkalcjoaaPx0
import Derived.Test.YtjgjcbhkalcjoaaPx2
import Derived.Test.YtjgjcbhkalcjoaaPx3
import Derived.Test.YtjgjcbhkalcjoaaPx5
namespace Go.Proofs.Ytjgjcbhkalcjoaa.P
open Go.RowKit Go.Proofs.YtjgjcbhkalcjoaaW.PrintWords Go.Proofs.YtjgjcbhkalcjoaaW.PrintLast Go.Proofs.YtjgjcbhkalcjoaaW.PrintMore
attribute [local go_sem] max2_int min2_int max_two min_two max_three min_three max_four min_four   -- for this text's walks alone
set_option linter.unusedVariables false
set_option linter.unusedSimpArgs false

/-! ### entaillaw6_TokeBytes: function 6 -/
mutual
def entaillaw6_TokeBytes.l0 : Nat → Int → Int → Int → ByteArray → Int → Option (Bool)
  | 0, _, _, _, _, _ => none
  | k + 1, x0, x1, x2, x7, x8 => if x8 < x1 then (if x7.size + 2 ≤ 9223372036854775807 then (entaillaw6_TokeBytes.l0 k x0 x1 x2 (x7 ++ (⟨#[97, 32]⟩ : ByteArray)) (wrap64 (x8 + 1))) else (none)) else ((some (([x0] : List Int) : List Int)).bind fun y231 => (if x7.size + (strOfNums y231).size ≤ 9223372036854775807 then (if (x7 ++ (strOfNums y231)).size + 2 ≤ 9223372036854775807 then ((toke_Tokens.f k ((x7 ++ (strOfNums y231)) ++ (⟨#[32, 98]⟩ : ByteArray))).bind fun bt234 => (if x0 = 32 then (entaillaw6_TokeBytes.j1 k x1 x2 bt234.2.1 bt234.2.2 true) else (if x0 = 9 then (entaillaw6_TokeBytes.j1 k x1 x2 bt234.2.1 bt234.2.2 true) else (if x0 = 10 then (entaillaw6_TokeBytes.j1 k x1 x2 bt234.2.1 bt234.2.2 true) else (if x0 = 13 then (entaillaw6_TokeBytes.j1 k x1 x2 bt234.2.1 bt234.2.2 true) else (if x0 ≥ 97 then (if x0 ≤ 122 then (entaillaw6_TokeBytes.j1 k x1 x2 bt234.2.1 bt234.2.2 true) else (if x0 ≥ 48 then (if x0 ≤ 57 then (entaillaw6_TokeBytes.j1 k x1 x2 bt234.2.1 bt234.2.2 true) else (if x0 = 95 then (entaillaw6_TokeBytes.j1 k x1 x2 bt234.2.1 bt234.2.2 true) else ((entailref1_Find.f k (⟨#[123, 125, 58, 59, 124, 35, 61, 43, 45, 38, 40, 41]⟩ : ByteArray) x0 0).bind fun t239 => (entaillaw6_TokeBytes.j1 k x1 x2 bt234.2.1 bt234.2.2 (decide (t239 ≥ 0)))))) else (if x0 = 95 then (entaillaw6_TokeBytes.j1 k x1 x2 bt234.2.1 bt234.2.2 true) else ((entailref1_Find.f k (⟨#[123, 125, 58, 59, 124, 35, 61, 43, 45, 38, 40, 41]⟩ : ByteArray) x0 0).bind fun t240 => (entaillaw6_TokeBytes.j1 k x1 x2 bt234.2.1 bt234.2.2 (decide (t240 ≥ 0))))))) else (if x0 ≥ 48 then (if x0 ≤ 57 then (entaillaw6_TokeBytes.j1 k x1 x2 bt234.2.1 bt234.2.2 true) else (if x0 = 95 then (entaillaw6_TokeBytes.j1 k x1 x2 bt234.2.1 bt234.2.2 true) else ((entailref1_Find.f k (⟨#[123, 125, 58, 59, 124, 35, 61, 43, 45, 38, 40, 41]⟩ : ByteArray) x0 0).bind fun t241 => (entaillaw6_TokeBytes.j1 k x1 x2 bt234.2.1 bt234.2.2 (decide (t241 ≥ 0)))))) else (if x0 = 95 then (entaillaw6_TokeBytes.j1 k x1 x2 bt234.2.1 bt234.2.2 true) else ((entailref1_Find.f k (⟨#[123, 125, 58, 59, 124, 35, 61, 43, 45, 38, 40, 41]⟩ : ByteArray) x0 0).bind fun t242 => (entaillaw6_TokeBytes.j1 k x1 x2 bt234.2.1 bt234.2.2 (decide (t242 ≥ 0)))))))))))) else (none)) else (none)))
def entaillaw6_TokeBytes.j1 : Nat → Int → Int → Int → Int → Bool → Option (Bool)
  | 0, _, _, _, _, _ => none
  | k + 1, x1, x2, x10, x11, x12 => if 0 ≤ x2 then (if (x2 : Int).toNat ≤ 281474976710656 then ((some (List.replicate (x2 : Int).toNat 0 : List Int)).bind fun y243 => (entaillaw6_TokeBytes.l1 k x1 x2 x10 x11 x12 y243 (y243.length : Int) 0)) else (none)) else (none)
def entaillaw6_TokeBytes.l1 : Nat → Int → Int → Int → Int → Bool → List Int → Int → Int → Option (Bool)
  | 0, _, _, _, _, _, _, _, _ => none
  | k + 1, x1, x2, x10, x11, x12, x13, x83, x84 => if x84 < x83 then (if 0 ≤ x84 then (if x84 < (x13.length : Int) then (entaillaw6_TokeBytes.l1 k x1 x2 x10 x11 x12 (x13.set (x84 : Int).toNat 32) x83 (wrap64 (x84 + 1))) else (none)) else (none)) else ((toke_Tokens.f k (strOfNums x13)).bind fun bt247 => (if ((x11 == 0) == x12) = true then (if x12 = true then (if ((bt247.2.2 == 8) == (decide (x2 > 100000))) = true then ((entaillaw6_awake.f k).bind fun t252 => (some t252)) else (none)) else (if x11 = 7 then (if x10 = (wrap64 (2 * x1)) then (if ((bt247.2.2 == 8) == (decide (x2 > 100000))) = true then ((entaillaw6_awake.f k).bind fun t253 => (some t253)) else (none)) else (none)) else (none))) else (none)))
end
def entaillaw6_TokeBytes.f (k : Nat) (a0 : Int) (a1 : Int) (a2 : Int) : Option (Bool) := entaillaw6_TokeBytes.l0 k a0 (Go.bits .and .i64 a1 31) (wrap64 (99990 + (Go.bits .and .i64 a2 31))) (⟨#[]⟩ : ByteArray) 0
theorem entaillaw6_TokeBytes.mono_l : ∀ k, (∀ y0 y1 y2 y3 y4, LeO (entaillaw6_TokeBytes.l0 k y0 y1 y2 y3 y4) (entaillaw6_TokeBytes.l0 (k + 1) y0 y1 y2 y3 y4)) ∧ (∀ y0 y1 y2 y3 y4, LeO (entaillaw6_TokeBytes.j1 k y0 y1 y2 y3 y4) (entaillaw6_TokeBytes.j1 (k + 1) y0 y1 y2 y3 y4)) ∧ (∀ y0 y1 y2 y3 y4 y5 y6 y7, LeO (entaillaw6_TokeBytes.l1 k y0 y1 y2 y3 y4 y5 y6 y7) (entaillaw6_TokeBytes.l1 (k + 1) y0 y1 y2 y3 y4 y5 y6 y7))
  | 0 => ⟨fun _ _ _ _ _ r h => by simp [entaillaw6_TokeBytes.l0] at h, fun _ _ _ _ _ r h => by simp [entaillaw6_TokeBytes.j1] at h, fun _ _ _ _ _ _ _ _ r h => by simp [entaillaw6_TokeBytes.l1] at h⟩
  | k + 1 => by
    obtain ⟨ih0, ih1, ih2⟩ := entaillaw6_TokeBytes.mono_l k
    refine ⟨?_, ?_, ?_⟩
    · intro y0 y1 y2 y3 y4
      unfold entaillaw6_TokeBytes.l0
      repeat' first
      | (with_reducible exact ih0 _ _ _ _ _)
      | (with_reducible exact ih1 _ _ _ _ _)
      | (with_reducible exact ih2 _ _ _ _ _ _ _ _)
      | (with_reducible exact entaillaw6_awake.mono _)
      | (with_reducible exact entailref1_Find.mono _ _ _ _)
      | (with_reducible exact toke_Tokens.mono _ _)
      | (with_reducible exact LeO.refl _)
      | (with_reducible exact LeO.none _)
      | (with_reducible refine LeO.ite ?_ ?_)
      | (with_reducible refine LeO.bind ?_ (fun _ => ?_))
      | exact ih0 _ _ _ _ _
      | exact ih1 _ _ _ _ _
      | exact ih2 _ _ _ _ _ _ _ _
      | exact entaillaw6_awake.mono _
      | exact entailref1_Find.mono _ _ _ _
      | exact toke_Tokens.mono _ _
      | exact LeO.none _
      | refine LeO.ite ?_ ?_
      | refine LeO.bind ?_ (fun _ => ?_)
    · intro y0 y1 y2 y3 y4
      unfold entaillaw6_TokeBytes.j1
      repeat' first
      | (with_reducible exact ih0 _ _ _ _ _)
      | (with_reducible exact ih1 _ _ _ _ _)
      | (with_reducible exact ih2 _ _ _ _ _ _ _ _)
      | (with_reducible exact entaillaw6_awake.mono _)
      | (with_reducible exact entailref1_Find.mono _ _ _ _)
      | (with_reducible exact toke_Tokens.mono _ _)
      | (with_reducible exact LeO.refl _)
      | (with_reducible exact LeO.none _)
      | (with_reducible refine LeO.ite ?_ ?_)
      | (with_reducible refine LeO.bind ?_ (fun _ => ?_))
      | exact ih0 _ _ _ _ _
      | exact ih1 _ _ _ _ _
      | exact ih2 _ _ _ _ _ _ _ _
      | exact entaillaw6_awake.mono _
      | exact entailref1_Find.mono _ _ _ _
      | exact toke_Tokens.mono _ _
      | exact LeO.none _
      | refine LeO.ite ?_ ?_
      | refine LeO.bind ?_ (fun _ => ?_)
    · intro y0 y1 y2 y3 y4 y5 y6 y7
      unfold entaillaw6_TokeBytes.l1
      repeat' first
      | (with_reducible exact ih0 _ _ _ _ _)
      | (with_reducible exact ih1 _ _ _ _ _)
      | (with_reducible exact ih2 _ _ _ _ _ _ _ _)
      | (with_reducible exact entaillaw6_awake.mono _)
      | (with_reducible exact entailref1_Find.mono _ _ _ _)
      | (with_reducible exact toke_Tokens.mono _ _)
      | (with_reducible exact LeO.refl _)
      | (with_reducible exact LeO.none _)
      | (with_reducible refine LeO.ite ?_ ?_)
      | (with_reducible refine LeO.bind ?_ (fun _ => ?_))
      | exact ih0 _ _ _ _ _
      | exact ih1 _ _ _ _ _
      | exact ih2 _ _ _ _ _ _ _ _
      | exact entaillaw6_awake.mono _
      | exact entailref1_Find.mono _ _ _ _
      | exact toke_Tokens.mono _ _
      | exact LeO.none _
      | refine LeO.ite ?_ ?_
      | refine LeO.bind ?_ (fun _ => ?_)
theorem entaillaw6_TokeBytes.mono : ∀ a0 a1 a2 k, LeO (entaillaw6_TokeBytes.f k a0 a1 a2) (entaillaw6_TokeBytes.f (k + 1) a0 a1 a2) := by
  intro a0 a1 a2 k
  obtain ⟨ih0, ih1, ih2⟩ := entaillaw6_TokeBytes.mono_l k
  unfold entaillaw6_TokeBytes.f
  repeat' first
      | (with_reducible exact ih0 _ _ _ _ _)
      | (with_reducible exact ih1 _ _ _ _ _)
      | (with_reducible exact ih2 _ _ _ _ _ _ _ _)
      | (with_reducible exact entaillaw6_awake.mono _)
      | (with_reducible exact entailref1_Find.mono _ _ _ _)
      | (with_reducible exact toke_Tokens.mono _ _)
      | (with_reducible exact LeO.refl _)
      | (with_reducible exact LeO.none _)
      | (with_reducible refine LeO.ite ?_ ?_)
      | (with_reducible refine LeO.bind ?_ (fun _ => ?_))
      | exact ih0 _ _ _ _ _
      | exact ih1 _ _ _ _ _
      | exact ih2 _ _ _ _ _ _ _ _
      | exact entaillaw6_awake.mono _
      | exact entailref1_Find.mono _ _ _ _
      | exact toke_Tokens.mono _ _
      | exact LeO.none _
      | refine LeO.ite ?_ ?_
      | refine LeO.bind ?_ (fun _ => ?_)
set_option maxHeartbeats 8000000 in
set_option maxRecDepth 100000 in
theorem entaillaw6_TokeBytes.calls (k : Nat) (a0 : Int) (a1 : Int) (a2 : Int) (r : Bool) (w : World) (h : entaillaw6_TokeBytes.f k a0 a1 a2 = some r) :
    Calls Try.prog 6 #[.int .u8 a0, .int .i64 a1, .int .i64 a2] w fun e w' => e = .returned (.bool r) ∧ Below w.heap.size w w' := by
  have HB := Aside0.mk (Below.refl w.heap.size w)
  have H : (entaillaw6_TokeBytes.l0 k a0 (Go.bits .and .i64 a1 31) (wrap64 (99990 + (Go.bits .and .i64 a2 31))) (⟨#[]⟩ : ByteArray) 0) = some r := h
  clear h
  have H' := Aside0.mk H
  clear H
  go_enter Try.func6, Try.ntmps6
  go_wp2
  go_loopg [7, 8] k (fun kq v7 v8 w' => ∃ (x7_1 : ByteArray) (x8_1 : Int), v7 = .string x7_1 ∧ v8 = .int .i64 x8_1 ∧ Aside0 (entaillaw6_TokeBytes.l0 kq a0 (Go.bits .and .i64 a1 31) (wrap64 (99990 + (Go.bits .and .i64 a2 31))) x7_1 x8_1 = some r) ∧ Aside0 (kq ≤ k) ∧ Aside0 (Below w.heap.size w w'))
  case atStart => exact ⟨((⟨#[]⟩ : ByteArray)), (0), (by first | rfl | (simp; done) | (simp [*]; done)), (by first | rfl | (simp; done) | (simp [*]; done)), H', ⟨Nat.le_refl _⟩, ⟨by repeat (first | (with_reducible first | exact HB.out | apply below_alloc | apply pw_below_drewN | apply below_drew1) | exact HB.out)⟩⟩
  case round =>
    clear H'
    try clear p2
    obtain ⟨x7_1, x8_1, rfl, rfl, HA, HK1, HB⟩ := hrel
    cases gk with
    | zero => exact absurd HA.out (by simp [entaillaw6_TokeBytes.l0])
    | succ k1 =>
      have H := HA.out
      clear HA
      simp only [entaillaw6_TokeBytes.l0] at H
      by_cases c4 : x8_1 < (Go.bits .and .i64 a1 31)
      · rw [if_pos c4] at H
        have c4b0 : decide (x8_1 < (Go.bits .and .i64 a1 31)) = true := decide_eq_true c4
        clear c4
        by_cases c5 : x7_1.size + 2 ≤ 9223372036854775807
        · rw [if_pos c5] at H
          have c5b0 := eq_true c5
          have c5b1 : decide (x7_1.size + 2 ≤ 9223372036854775807) = true := decide_eq_true c5
          try have c5b2 : (9223372036854775807 < x7_1.size + 2) = False := eq_false (Nat.not_lt.2 c5)
          have H' := Aside0.mk H
          clear H
          go_wp2
          go_roundg k1
          case measure => have := HK1.out; omega
          case rel => exact ⟨(x7_1 ++ (⟨#[97, 32]⟩ : ByteArray)), (wrap64 (x8_1 + 1)), (by first | rfl | (simp; done) | (simp [*]; done)), (by first | rfl | (simp; done) | (simp [*]; done)), H', ⟨by have := HK1.out; omega⟩, ⟨by repeat (first | (with_reducible first | exact HB.out | apply below_alloc | apply pw_below_drewN | apply below_drew1) | exact HB.out)⟩⟩
        · rw [if_neg c5] at H
          exact absurd H (by simp)
      · rw [if_neg c4] at H
        have c4b0 : decide (x8_1 < (Go.bits .and .i64 a1 31)) = false := decide_eq_false c4
        clear c4
        obtain ⟨y231, hy231⟩ : ∃ y_ : List Int, y_ = (([a0] : List Int)) := ⟨_, rfl⟩
        replace H : (if x7_1.size + (strOfNums y231).size ≤ 9223372036854775807 then (if (x7_1 ++ (strOfNums y231)).size + 2 ≤ 9223372036854775807 then ((toke_Tokens.f k1 ((x7_1 ++ (strOfNums y231)) ++ (⟨#[32, 98]⟩ : ByteArray))).bind fun bt234 => (if a0 = 32 then (entaillaw6_TokeBytes.j1 k1 (Go.bits .and .i64 a1 31) (wrap64 (99990 + (Go.bits .and .i64 a2 31))) bt234.2.1 bt234.2.2 true) else (if a0 = 9 then (entaillaw6_TokeBytes.j1 k1 (Go.bits .and .i64 a1 31) (wrap64 (99990 + (Go.bits .and .i64 a2 31))) bt234.2.1 bt234.2.2 true) else (if a0 = 10 then (entaillaw6_TokeBytes.j1 k1 (Go.bits .and .i64 a1 31) (wrap64 (99990 + (Go.bits .and .i64 a2 31))) bt234.2.1 bt234.2.2 true) else (if a0 = 13 then (entaillaw6_TokeBytes.j1 k1 (Go.bits .and .i64 a1 31) (wrap64 (99990 + (Go.bits .and .i64 a2 31))) bt234.2.1 bt234.2.2 true) else (if a0 ≥ 97 then (if a0 ≤ 122 then (entaillaw6_TokeBytes.j1 k1 (Go.bits .and .i64 a1 31) (wrap64 (99990 + (Go.bits .and .i64 a2 31))) bt234.2.1 bt234.2.2 true) else (if a0 ≥ 48 then (if a0 ≤ 57 then (entaillaw6_TokeBytes.j1 k1 (Go.bits .and .i64 a1 31) (wrap64 (99990 + (Go.bits .and .i64 a2 31))) bt234.2.1 bt234.2.2 true) else (if a0 = 95 then (entaillaw6_TokeBytes.j1 k1 (Go.bits .and .i64 a1 31) (wrap64 (99990 + (Go.bits .and .i64 a2 31))) bt234.2.1 bt234.2.2 true) else ((entailref1_Find.f k1 (⟨#[123, 125, 58, 59, 124, 35, 61, 43, 45, 38, 40, 41]⟩ : ByteArray) a0 0).bind fun t239 => (entaillaw6_TokeBytes.j1 k1 (Go.bits .and .i64 a1 31) (wrap64 (99990 + (Go.bits .and .i64 a2 31))) bt234.2.1 bt234.2.2 (decide (t239 ≥ 0)))))) else (if a0 = 95 then (entaillaw6_TokeBytes.j1 k1 (Go.bits .and .i64 a1 31) (wrap64 (99990 + (Go.bits .and .i64 a2 31))) bt234.2.1 bt234.2.2 true) else ((entailref1_Find.f k1 (⟨#[123, 125, 58, 59, 124, 35, 61, 43, 45, 38, 40, 41]⟩ : ByteArray) a0 0).bind fun t240 => (entaillaw6_TokeBytes.j1 k1 (Go.bits .and .i64 a1 31) (wrap64 (99990 + (Go.bits .and .i64 a2 31))) bt234.2.1 bt234.2.2 (decide (t240 ≥ 0))))))) else (if a0 ≥ 48 then (if a0 ≤ 57 then (entaillaw6_TokeBytes.j1 k1 (Go.bits .and .i64 a1 31) (wrap64 (99990 + (Go.bits .and .i64 a2 31))) bt234.2.1 bt234.2.2 true) else (if a0 = 95 then (entaillaw6_TokeBytes.j1 k1 (Go.bits .and .i64 a1 31) (wrap64 (99990 + (Go.bits .and .i64 a2 31))) bt234.2.1 bt234.2.2 true) else ((entailref1_Find.f k1 (⟨#[123, 125, 58, 59, 124, 35, 61, 43, 45, 38, 40, 41]⟩ : ByteArray) a0 0).bind fun t241 => (entaillaw6_TokeBytes.j1 k1 (Go.bits .and .i64 a1 31) (wrap64 (99990 + (Go.bits .and .i64 a2 31))) bt234.2.1 bt234.2.2 (decide (t241 ≥ 0)))))) else (if a0 = 95 then (entaillaw6_TokeBytes.j1 k1 (Go.bits .and .i64 a1 31) (wrap64 (99990 + (Go.bits .and .i64 a2 31))) bt234.2.1 bt234.2.2 true) else ((entailref1_Find.f k1 (⟨#[123, 125, 58, 59, 124, 35, 61, 43, 45, 38, 40, 41]⟩ : ByteArray) a0 0).bind fun t242 => (entaillaw6_TokeBytes.j1 k1 (Go.bits .and .i64 a1 31) (wrap64 (99990 + (Go.bits .and .i64 a2 31))) bt234.2.1 bt234.2.2 (decide (t242 ≥ 0)))))))))))) else (none)) else (none)) = some r := by first | (rw [hy231]; with_reducible exact H) | (have H2_ := (Option.bind_some _ _).symm.trans H; rw [hy231]; with_reducible exact H2_) | (have H2_ := (Option.bind_some _ _).symm.trans H; with_reducible exact H2_) | with_reducible exact H | (rw [hy231]; exact H) | exact H
        have Ny231 := Aside0.mk hy231
        clear hy231
        by_cases c6 : x7_1.size + (strOfNums y231).size ≤ 9223372036854775807
        · rw [if_pos c6] at H
          have c6b0 := eq_true c6
          have c6b1 : decide (x7_1.size + (strOfNums y231).size ≤ 9223372036854775807) = true := decide_eq_true c6
          try have c6b2 : (9223372036854775807 < x7_1.size + (strOfNums y231).size) = False := eq_false (Nat.not_lt.2 c6)
          by_cases c7 : (x7_1 ++ (strOfNums y231)).size + 2 ≤ 9223372036854775807
          · rw [if_pos c7] at H
            have c7e := c7
            (try simp only [ByteArray.size_append] at c7e)
            have c7e0 := eq_true c7e
            have c7e1 := decide_eq_true c7e
            (try have c7e2 := eq_false (Nat.not_lt.2 c7e))
            clear c7e
            have c7b0 := eq_true c7
            have c7b1 : decide ((x7_1 ++ (strOfNums y231)).size + 2 ≤ 9223372036854775807) = true := decide_eq_true c7
            try have c7b2 : (9223372036854775807 < (x7_1 ++ (strOfNums y231)).size + 2) = False := eq_false (Nat.not_lt.2 c7)
            replace H := Option.bind_eq_some_iff.mp H
            obtain ⟨⟨t234, t235, t236⟩, A80, H⟩ := H
            replace H : (if a0 = 32 then (entaillaw6_TokeBytes.j1 k1 (Go.bits .and .i64 a1 31) (wrap64 (99990 + (Go.bits .and .i64 a2 31))) t235 t236 true) else (if a0 = 9 then (entaillaw6_TokeBytes.j1 k1 (Go.bits .and .i64 a1 31) (wrap64 (99990 + (Go.bits .and .i64 a2 31))) t235 t236 true) else (if a0 = 10 then (entaillaw6_TokeBytes.j1 k1 (Go.bits .and .i64 a1 31) (wrap64 (99990 + (Go.bits .and .i64 a2 31))) t235 t236 true) else (if a0 = 13 then (entaillaw6_TokeBytes.j1 k1 (Go.bits .and .i64 a1 31) (wrap64 (99990 + (Go.bits .and .i64 a2 31))) t235 t236 true) else (if a0 ≥ 97 then (if a0 ≤ 122 then (entaillaw6_TokeBytes.j1 k1 (Go.bits .and .i64 a1 31) (wrap64 (99990 + (Go.bits .and .i64 a2 31))) t235 t236 true) else (if a0 ≥ 48 then (if a0 ≤ 57 then (entaillaw6_TokeBytes.j1 k1 (Go.bits .and .i64 a1 31) (wrap64 (99990 + (Go.bits .and .i64 a2 31))) t235 t236 true) else (if a0 = 95 then (entaillaw6_TokeBytes.j1 k1 (Go.bits .and .i64 a1 31) (wrap64 (99990 + (Go.bits .and .i64 a2 31))) t235 t236 true) else ((entailref1_Find.f k1 (⟨#[123, 125, 58, 59, 124, 35, 61, 43, 45, 38, 40, 41]⟩ : ByteArray) a0 0).bind fun t239 => (entaillaw6_TokeBytes.j1 k1 (Go.bits .and .i64 a1 31) (wrap64 (99990 + (Go.bits .and .i64 a2 31))) t235 t236 (decide (t239 ≥ 0)))))) else (if a0 = 95 then (entaillaw6_TokeBytes.j1 k1 (Go.bits .and .i64 a1 31) (wrap64 (99990 + (Go.bits .and .i64 a2 31))) t235 t236 true) else ((entailref1_Find.f k1 (⟨#[123, 125, 58, 59, 124, 35, 61, 43, 45, 38, 40, 41]⟩ : ByteArray) a0 0).bind fun t240 => (entaillaw6_TokeBytes.j1 k1 (Go.bits .and .i64 a1 31) (wrap64 (99990 + (Go.bits .and .i64 a2 31))) t235 t236 (decide (t240 ≥ 0))))))) else (if a0 ≥ 48 then (if a0 ≤ 57 then (entaillaw6_TokeBytes.j1 k1 (Go.bits .and .i64 a1 31) (wrap64 (99990 + (Go.bits .and .i64 a2 31))) t235 t236 true) else (if a0 = 95 then (entaillaw6_TokeBytes.j1 k1 (Go.bits .and .i64 a1 31) (wrap64 (99990 + (Go.bits .and .i64 a2 31))) t235 t236 true) else ((entailref1_Find.f k1 (⟨#[123, 125, 58, 59, 124, 35, 61, 43, 45, 38, 40, 41]⟩ : ByteArray) a0 0).bind fun t241 => (entaillaw6_TokeBytes.j1 k1 (Go.bits .and .i64 a1 31) (wrap64 (99990 + (Go.bits .and .i64 a2 31))) t235 t236 (decide (t241 ≥ 0)))))) else (if a0 = 95 then (entaillaw6_TokeBytes.j1 k1 (Go.bits .and .i64 a1 31) (wrap64 (99990 + (Go.bits .and .i64 a2 31))) t235 t236 true) else ((entailref1_Find.f k1 (⟨#[123, 125, 58, 59, 124, 35, 61, 43, 45, 38, 40, 41]⟩ : ByteArray) a0 0).bind fun t242 => (entaillaw6_TokeBytes.j1 k1 (Go.bits .and .i64 a1 31) (wrap64 (99990 + (Go.bits .and .i64 a2 31))) t235 t236 (decide (t242 ≥ 0))))))))))) = some r := H
            have A8 := Aside0.mk A80
            clear A80
            have HC9 := Aside0.mk H
            clear H
            go_upto_region 8 with (first | ((with_reducible refine gate_dst (N := 33) rfl ?_); refine Kd.R_lit (Kd.int .u8) _ 5 ?hg (N := 33) ?hd (xs := ([a0] : List Int)) (inner := [.int .u8 a0]) (ok := fun _ => True) (okp := fun _ => True) ?hr ?hp (fun _ hk => hk) trivial (Below.refl _ _) (Nat.le_refl _) (by simp) ?_; (case hd => rfl); (case hg => rfl); (case hr => first | (go_simp; done) | (go_simp; rfl)); (case hp => exact (Reps.one (show Kd.M (Kd.int .u8) _ _ _ a0 [.int .u8 a0] from rfl) (Reps.none _ _))); intro v232 w10 ho11 hb hg_ hnew_; clear hg_ hnew_; (first | rw [← Ny231.out] at ho11 | (simp only [Int.reduceToNat] at ho11; rw [← Ny231.out] at ho11)); have n0_ := Aside0.mk (Kd.R_lower ho11 (below_size (by repeat (first | (with_reducible first | exact HB.out | apply below_alloc | apply pw_below_drewN | apply below_drew1) | exact HB.out)))); have n1_ := Aside0.mk (below_step (by repeat (first | (with_reducible first | exact HB.out | apply below_alloc | apply pw_below_drewN | apply below_drew1) | exact HB.out)) hb); clear HB; have HO233 := n0_; have HB := n1_; clear n0_ n1_; clear hb ho11; have hcv12 := own_string (P := Try.prog) Try.underlying22 Try.underlying5 Try.underlying9 (Kd.own_of_R HO233.out)) | ((with_reducible refine gate_callee (f := 7) rfl ?_); refine goesL_ (some 37) rfl rfl Try.func7 (by kernel_rfl) rfl #[.string ((x7_1 ++ (strOfNums y231)) ++ (⟨#[32, 98]⟩ : ByteArray))] rfl (by (try simp only [List.map_toArray, List.map_cons, List.map_nil]); first | done | rfl | (simp only [List.length_drop, List.length_take]; rfl)) ?_; (with_reducible refine (toke_Tokens.calls k1 ((x7_1 ++ (strOfNums y231)) ++ (⟨#[32, 98]⟩ : ByteArray)) t234 t235 t236 _ A8.out).mono ?_); rintro e w13 ⟨v237, rfl, ho0, hb⟩; refine ⟨_, rfl, ?_⟩; have n0_ := Aside0.mk (Kd.R_below (by (with_reducible repeat (first | apply Kd.R_alloc | apply Kd.R_drewN | apply Kd.R_drew)); exact HO233.out) hb); have n1_ := Aside0.mk (Kd.R_lower ho0 (below_size (by repeat (first | (with_reducible first | exact HB.out | apply below_alloc | apply pw_below_drewN | apply below_drew1) | exact HB.out)))); have n2_ := Aside0.mk (below_step (by repeat (first | (with_reducible first | exact HB.out | apply below_alloc | apply pw_below_drewN | apply below_drew1) | exact HB.out)) hb); clear HO233; clear HB; have HO233 := n0_; have HO238 := n1_; have HB := n2_; clear n0_ n1_ n2_; (try clear hb); (try clear hb2); (try clear hk); (try clear hi); (try clear ho0)))
            (try simp only [Act.put, List.setIfInBounds_toArray, List.set_cons_zero, List.set_cons_succ])
            go_cut [12] (fun v12 wc => ∃ (kq : Nat) (x12_8 : Bool), v12 = .bool x12_8 ∧ Aside0 (entaillaw6_TokeBytes.j1 kq (Go.bits .and .i64 a1 31) (wrap64 (99990 + (Go.bits .and .i64 a2 31))) t235 t236 x12_8 = some r) ∧ Aside0 (kq ≤ k1) ∧ Aside0 (Below w.heap.size w wc))
            case first =>
              have H := HC9.out
              clear HC9
              by_cases c14 : a0 = 32
              · rw [if_pos c14] at H
                have c14b0 : (a0 == 32) = true := beq_iff_eq.mpr c14
                have c14b1 : (a0 != 32) = false := bne_eq_false_iff_eq.mpr c14
                clear c14
                (first | rw [c14b0] | (simp only [i64_w, i32_w]; rw [c14b0]) | skip)
                have H' := Aside0.mk H
                clear H
                go_wp2
                go_meet
                case rel => exact ⟨_, (true), (by first | rfl | (simp; done) | (simp [*]; done)), H', ⟨by have := HK1.out; first | omega | exact Nat.le_refl _⟩, ⟨by repeat (first | (with_reducible first | exact HB.out | apply below_alloc | apply pw_below_drewN | apply below_drew1) | exact HB.out)⟩⟩
              · rw [if_neg c14] at H
                have c14b0 : (a0 == 32) = false := beq_eq_false_iff_ne.mpr c14
                have c14b1 : (a0 != 32) = true := bne_iff_ne.mpr c14
                (first | rw [c14b0] | (simp only [i64_w, i32_w]; rw [c14b0]) | skip)
                by_cases c15 : a0 = 9
                · rw [if_pos c15] at H
                  have c15b0 : (a0 == 9) = true := beq_iff_eq.mpr c15
                  have c15b1 : (a0 != 9) = false := bne_eq_false_iff_eq.mpr c15
                  clear c15
                  have H' := Aside0.mk H
                  clear H
                  go_wp2
                  go_meet
                  case rel => exact ⟨_, (true), (by first | rfl | (simp; done) | (simp [*]; done)), H', ⟨by have := HK1.out; first | omega | exact Nat.le_refl _⟩, ⟨by repeat (first | (with_reducible first | exact HB.out | apply below_alloc | apply pw_below_drewN | apply below_drew1) | exact HB.out)⟩⟩
                · rw [if_neg c15] at H
                  have c15b0 : (a0 == 9) = false := beq_eq_false_iff_ne.mpr c15
                  have c15b1 : (a0 != 9) = true := bne_iff_ne.mpr c15
                  by_cases c16 : a0 = 10
                  · rw [if_pos c16] at H
                    have c16b0 : (a0 == 10) = true := beq_iff_eq.mpr c16
                    have c16b1 : (a0 != 10) = false := bne_eq_false_iff_eq.mpr c16
                    clear c16
                    have H' := Aside0.mk H
                    clear H
                    go_wp2
                    go_meet
                    case rel => exact ⟨_, (true), (by first | rfl | (simp; done) | (simp [*]; done)), H', ⟨by have := HK1.out; first | omega | exact Nat.le_refl _⟩, ⟨by repeat (first | (with_reducible first | exact HB.out | apply below_alloc | apply pw_below_drewN | apply below_drew1) | exact HB.out)⟩⟩
                  · rw [if_neg c16] at H
                    have c16b0 : (a0 == 10) = false := beq_eq_false_iff_ne.mpr c16
                    have c16b1 : (a0 != 10) = true := bne_iff_ne.mpr c16
                    by_cases c17 : a0 = 13
                    · rw [if_pos c17] at H
                      have c17b0 : (a0 == 13) = true := beq_iff_eq.mpr c17
                      have c17b1 : (a0 != 13) = false := bne_eq_false_iff_eq.mpr c17
                      clear c17
                      have H' := Aside0.mk H
                      clear H
                      go_wp2
                      go_meet
                      case rel => exact ⟨_, (true), (by first | rfl | (simp; done) | (simp [*]; done)), H', ⟨by have := HK1.out; first | omega | exact Nat.le_refl _⟩, ⟨by repeat (first | (with_reducible first | exact HB.out | apply below_alloc | apply pw_below_drewN | apply below_drew1) | exact HB.out)⟩⟩
                    · rw [if_neg c17] at H
                      have c17b0 : (a0 == 13) = false := beq_eq_false_iff_ne.mpr c17
                      have c17b1 : (a0 != 13) = true := bne_iff_ne.mpr c17
                      by_cases c18 : a0 ≥ 97
                      · rw [if_pos c18] at H
                        have c18b0 : decide (97 ≤ a0) = true := decide_eq_true c18
                        clear c18
                        by_cases c19 : a0 ≤ 122
                        · rw [if_pos c19] at H
                          have c19b0 : decide (a0 ≤ 122) = true := decide_eq_true c19
                          clear c19
                          have H' := Aside0.mk H
                          clear H
                          go_wp2
                          go_meet
                          case rel => exact ⟨_, (true), (by first | rfl | (simp; done) | (simp [*]; done)), H', ⟨by have := HK1.out; first | omega | exact Nat.le_refl _⟩, ⟨by repeat (first | (with_reducible first | exact HB.out | apply below_alloc | apply pw_below_drewN | apply below_drew1) | exact HB.out)⟩⟩
                        · rw [if_neg c19] at H
                          have c19b0 : decide (a0 ≤ 122) = false := decide_eq_false c19
                          clear c19
                          by_cases c20 : a0 ≥ 48
                          · rw [if_pos c20] at H
                            have c20b0 : decide (48 ≤ a0) = true := decide_eq_true c20
                            clear c20
                            by_cases c21 : a0 ≤ 57
                            · rw [if_pos c21] at H
                              have c21b0 : decide (a0 ≤ 57) = true := decide_eq_true c21
                              clear c21
                              have H' := Aside0.mk H
                              clear H
                              go_wp2
                              go_meet
                              case rel => exact ⟨_, (true), (by first | rfl | (simp; done) | (simp [*]; done)), H', ⟨by have := HK1.out; first | omega | exact Nat.le_refl _⟩, ⟨by repeat (first | (with_reducible first | exact HB.out | apply below_alloc | apply pw_below_drewN | apply below_drew1) | exact HB.out)⟩⟩
                            · rw [if_neg c21] at H
                              have c21b0 : decide (a0 ≤ 57) = false := decide_eq_false c21
                              clear c21
                              by_cases c22 : a0 = 95
                              · rw [if_pos c22] at H
                                have c22b0 : (a0 == 95) = true := beq_iff_eq.mpr c22
                                have c22b1 : (a0 != 95) = false := bne_eq_false_iff_eq.mpr c22
                                clear c22
                                have H' := Aside0.mk H
                                clear H
                                go_wp2
                                go_meet
                                case rel => exact ⟨_, (true), (by first | rfl | (simp; done) | (simp [*]; done)), H', ⟨by have := HK1.out; first | omega | exact Nat.le_refl _⟩, ⟨by repeat (first | (with_reducible first | exact HB.out | apply below_alloc | apply pw_below_drewN | apply below_drew1) | exact HB.out)⟩⟩
                              · rw [if_neg c22] at H
                                have c22b0 : (a0 == 95) = false := beq_eq_false_iff_ne.mpr c22
                                have c22b1 : (a0 != 95) = true := bne_iff_ne.mpr c22
                                replace H := Option.bind_eq_some_iff.mp H
                                obtain ⟨t239, A230, H⟩ := H
                                replace H : (entaillaw6_TokeBytes.j1 k1 (Go.bits .and .i64 a1 31) (wrap64 (99990 + (Go.bits .and .i64 a2 31))) t235 t236 (decide (t239 ≥ 0))) = some r := H
                                have A23 := Aside0.mk A230
                                clear A230
                                have H' := Aside0.mk H
                                clear H
                                go_wp2_with (first | (go_at_call 12; (with_reducible refine (entailref1_Find.calls k1 (⟨#[123, 125, 58, 59, 124, 35, 61, 43, 45, 38, 40, 41]⟩ : ByteArray) a0 0 t239 _ A23.out).mono ?_); rintro e w' ⟨rfl, ⟨nd, rfl⟩⟩))
                                go_meet
                                case rel => exact ⟨_, (decide (t239 ≥ 0)), (by first | rfl | (simp; done) | (simp [*]; done)), H', ⟨by have := HK1.out; first | omega | exact Nat.le_refl _⟩, ⟨by repeat (first | (with_reducible first | exact HB.out | apply below_alloc | apply pw_below_drewN | apply below_drew1) | exact HB.out)⟩⟩
                          · rw [if_neg c20] at H
                            have c20b0 : decide (48 ≤ a0) = false := decide_eq_false c20
                            clear c20
                            by_cases c24 : a0 = 95
                            · rw [if_pos c24] at H
                              have c24b0 : (a0 == 95) = true := beq_iff_eq.mpr c24
                              have c24b1 : (a0 != 95) = false := bne_eq_false_iff_eq.mpr c24
                              clear c24
                              have H' := Aside0.mk H
                              clear H
                              go_wp2
                              go_meet
                              case rel => exact ⟨_, (true), (by first | rfl | (simp; done) | (simp [*]; done)), H', ⟨by have := HK1.out; first | omega | exact Nat.le_refl _⟩, ⟨by repeat (first | (with_reducible first | exact HB.out | apply below_alloc | apply pw_below_drewN | apply below_drew1) | exact HB.out)⟩⟩
                            · rw [if_neg c24] at H
                              have c24b0 : (a0 == 95) = false := beq_eq_false_iff_ne.mpr c24
                              have c24b1 : (a0 != 95) = true := bne_iff_ne.mpr c24
                              replace H := Option.bind_eq_some_iff.mp H
                              obtain ⟨t240, A250, H⟩ := H
                              replace H : (entaillaw6_TokeBytes.j1 k1 (Go.bits .and .i64 a1 31) (wrap64 (99990 + (Go.bits .and .i64 a2 31))) t235 t236 (decide (t240 ≥ 0))) = some r := H
                              have A25 := Aside0.mk A250
                              clear A250
                              have H' := Aside0.mk H
                              clear H
                              go_wp2_with (first | (go_at_call 12; (with_reducible refine (entailref1_Find.calls k1 (⟨#[123, 125, 58, 59, 124, 35, 61, 43, 45, 38, 40, 41]⟩ : ByteArray) a0 0 t240 _ A25.out).mono ?_); rintro e w' ⟨rfl, ⟨nd, rfl⟩⟩))
                              go_meet
                              case rel => exact ⟨_, (decide (t240 ≥ 0)), (by first | rfl | (simp; done) | (simp [*]; done)), H', ⟨by have := HK1.out; first | omega | exact Nat.le_refl _⟩, ⟨by repeat (first | (with_reducible first | exact HB.out | apply below_alloc | apply pw_below_drewN | apply below_drew1) | exact HB.out)⟩⟩
                      · rw [if_neg c18] at H
                        have c18b0 : decide (97 ≤ a0) = false := decide_eq_false c18
                        clear c18
                        by_cases c26 : a0 ≥ 48
                        · rw [if_pos c26] at H
                          have c26b0 : decide (48 ≤ a0) = true := decide_eq_true c26
                          clear c26
                          by_cases c27 : a0 ≤ 57
                          · rw [if_pos c27] at H
                            have c27b0 : decide (a0 ≤ 57) = true := decide_eq_true c27
                            clear c27
                            have H' := Aside0.mk H
                            clear H
                            go_wp2
                            go_meet
                            case rel => exact ⟨_, (true), (by first | rfl | (simp; done) | (simp [*]; done)), H', ⟨by have := HK1.out; first | omega | exact Nat.le_refl _⟩, ⟨by repeat (first | (with_reducible first | exact HB.out | apply below_alloc | apply pw_below_drewN | apply below_drew1) | exact HB.out)⟩⟩
                          · rw [if_neg c27] at H
                            have c27b0 : decide (a0 ≤ 57) = false := decide_eq_false c27
                            clear c27
                            by_cases c28 : a0 = 95
                            · rw [if_pos c28] at H
                              have c28b0 : (a0 == 95) = true := beq_iff_eq.mpr c28
                              have c28b1 : (a0 != 95) = false := bne_eq_false_iff_eq.mpr c28
                              clear c28
                              have H' := Aside0.mk H
                              clear H
                              go_wp2
                              go_meet
                              case rel => exact ⟨_, (true), (by first | rfl | (simp; done) | (simp [*]; done)), H', ⟨by have := HK1.out; first | omega | exact Nat.le_refl _⟩, ⟨by repeat (first | (with_reducible first | exact HB.out | apply below_alloc | apply pw_below_drewN | apply below_drew1) | exact HB.out)⟩⟩
                            · rw [if_neg c28] at H
                              have c28b0 : (a0 == 95) = false := beq_eq_false_iff_ne.mpr c28
                              have c28b1 : (a0 != 95) = true := bne_iff_ne.mpr c28
                              replace H := Option.bind_eq_some_iff.mp H
                              obtain ⟨t241, A290, H⟩ := H
                              replace H : (entaillaw6_TokeBytes.j1 k1 (Go.bits .and .i64 a1 31) (wrap64 (99990 + (Go.bits .and .i64 a2 31))) t235 t236 (decide (t241 ≥ 0))) = some r := H
                              have A29 := Aside0.mk A290
                              clear A290
                              have H' := Aside0.mk H
                              clear H
                              go_wp2_with (first | (go_at_call 12; (with_reducible refine (entailref1_Find.calls k1 (⟨#[123, 125, 58, 59, 124, 35, 61, 43, 45, 38, 40, 41]⟩ : ByteArray) a0 0 t241 _ A29.out).mono ?_); rintro e w' ⟨rfl, ⟨nd, rfl⟩⟩))
                              go_meet
                              case rel => exact ⟨_, (decide (t241 ≥ 0)), (by first | rfl | (simp; done) | (simp [*]; done)), H', ⟨by have := HK1.out; first | omega | exact Nat.le_refl _⟩, ⟨by repeat (first | (with_reducible first | exact HB.out | apply below_alloc | apply pw_below_drewN | apply below_drew1) | exact HB.out)⟩⟩
                        · rw [if_neg c26] at H
                          have c26b0 : decide (48 ≤ a0) = false := decide_eq_false c26
                          clear c26
                          by_cases c30 : a0 = 95
                          · rw [if_pos c30] at H
                            have c30b0 : (a0 == 95) = true := beq_iff_eq.mpr c30
                            have c30b1 : (a0 != 95) = false := bne_eq_false_iff_eq.mpr c30
                            clear c30
                            have H' := Aside0.mk H
                            clear H
                            go_wp2
                            go_meet
                            case rel => exact ⟨_, (true), (by first | rfl | (simp; done) | (simp [*]; done)), H', ⟨by have := HK1.out; first | omega | exact Nat.le_refl _⟩, ⟨by repeat (first | (with_reducible first | exact HB.out | apply below_alloc | apply pw_below_drewN | apply below_drew1) | exact HB.out)⟩⟩
                          · rw [if_neg c30] at H
                            have c30b0 : (a0 == 95) = false := beq_eq_false_iff_ne.mpr c30
                            have c30b1 : (a0 != 95) = true := bne_iff_ne.mpr c30
                            replace H := Option.bind_eq_some_iff.mp H
                            obtain ⟨t242, A310, H⟩ := H
                            replace H : (entaillaw6_TokeBytes.j1 k1 (Go.bits .and .i64 a1 31) (wrap64 (99990 + (Go.bits .and .i64 a2 31))) t235 t236 (decide (t242 ≥ 0))) = some r := H
                            have A31 := Aside0.mk A310
                            clear A310
                            have H' := Aside0.mk H
                            clear H
                            go_wp2_with (first | (go_at_call 12; (with_reducible refine (entailref1_Find.calls k1 (⟨#[123, 125, 58, 59, 124, 35, 61, 43, 45, 38, 40, 41]⟩ : ByteArray) a0 0 t242 _ A31.out).mono ?_); rintro e w' ⟨rfl, ⟨nd, rfl⟩⟩))
                            go_meet
                            case rel => exact ⟨_, (decide (t242 ≥ 0)), (by first | rfl | (simp; done) | (simp [*]; done)), H', ⟨by have := HK1.out; first | omega | exact Nat.le_refl _⟩, ⟨by repeat (first | (with_reducible first | exact HB.out | apply below_alloc | apply pw_below_drewN | apply below_drew1) | exact HB.out)⟩⟩
            case rest =>
              clear HC9
              try clear c1
              try clear hcv1
              try clear c2
              try clear p2
              try clear c3
              try clear c4
              try clear c4b0
              try clear c5
              try clear c5b0
              try clear c5b1
              try clear c5b2
              try clear c6
              try clear c6b0
              try clear c6b1
              try clear c6b2
              try clear p6
              try clear c7
              try clear c7b0
              try clear c7b1
              try clear c7b2
              try clear hcv12
              try clear c14
              try clear c14b0
              try clear c14b1
              try clear c15
              try clear c15b0
              try clear c15b1
              try clear c16
              try clear c16b0
              try clear c16b1
              try clear c17
              try clear c17b0
              try clear c17b1
              try clear c18
              try clear c18b0
              try clear c19
              try clear c19b0
              try clear c20
              try clear c20b0
              try clear c21
              try clear c21b0
              try clear c22
              try clear c22b0
              try clear c22b1
              try clear c24
              try clear c24b0
              try clear c24b1
              try clear c26
              try clear c26b0
              try clear c27
              try clear c27b0
              try clear c28
              try clear c28b0
              try clear c28b1
              try clear c30
              try clear c30b0
              try clear c30b1
              try clear p2
              obtain ⟨kq, x12_8, rfl, HA, HJ8, HB⟩ := hcut
              cases kq with
              | zero => exact absurd HA.out (by simp [entaillaw6_TokeBytes.j1])
              | succ kj8 =>
                have H := HA.out
                clear HA
                simp only [entaillaw6_TokeBytes.j1] at H
                obtain ⟨ji32, hji32⟩ : ∃ j_ : Int, (wrap64 (99990 + (Go.bits .and .i64 a2 31))) = j_ := ⟨_, rfl⟩
                replace H : (if 0 ≤ (ji32) then (if ((ji32) : Int).toNat ≤ 281474976710656 then ((some (List.replicate ((ji32) : Int).toNat 0 : List Int)).bind fun y243 => (entaillaw6_TokeBytes.l1 kj8 (Go.bits .and .i64 a1 31) (ji32) t235 t236 x12_8 y243 (y243.length : Int) 0)) else (none)) else (none)) = some r := by first | (rw [hji32] at H; exact H) | (simp only [hji32] at H ⊢; exact H)
                have hji32w : (IntKind.i64.wrap (99990 + (Go.bits .and .i64 a2 31))) = ji32 := (i64_w _).trans hji32
                by_cases c33 : 0 ≤ (ji32)
                · rw [if_pos c33] at H
                  have c33b0 := eq_true c33
                  have c33b1 : decide (0 ≤ (ji32)) = true := decide_eq_true c33
                  clear c33
                  by_cases c34 : ((ji32) : Int).toNat ≤ 281474976710656
                  · rw [if_pos c34] at H
                    have c34b0 := eq_true c34
                    have c34b1 : decide (((ji32) : Int).toNat ≤ 281474976710656) = true := decide_eq_true c34
                    clear c34
                    obtain ⟨y243, hy243⟩ : ∃ y_ : List Int, y_ = (List.replicate ((ji32) : Int).toNat 0) := ⟨_, rfl⟩
                    replace H : (entaillaw6_TokeBytes.l1 kj8 (Go.bits .and .i64 a1 31) (ji32) t235 t236 x12_8 y243 (y243.length : Int) 0) = some r := by first | (rw [hy243]; with_reducible exact H) | (have H2_ := (Option.bind_some _ _).symm.trans H; rw [hy243]; with_reducible exact H2_) | (have H2_ := (Option.bind_some _ _).symm.trans H; with_reducible exact H2_) | with_reducible exact H | (rw [hy243]; exact H) | exact H
                    have Ny243 := Aside0.mk hy243
                    clear hy243
                    have H' := Aside0.mk H
                    clear H
                    (try simp only [hji32])
                    go_wp2_with (first | ((with_reducible refine gate_dst (N := 81) rfl ?_); refine Kd.R_make (Kd.int .u8) _ 5 rfl (N := 81) rfl 22 _ _ rfl (ji32) rfl rfl Try.underlying22 (.int .u8 0) 1 info5 rfl (by decide) (by omega) 0 (ok := fun _ => True) (okp := fun _ => True) rfl (fun _ hk => hk) trivial (of_decide_eq_true (by first | (with_reducible assumption) | assumption)) (Nat.le_trans (Nat.mul_le_mul_right _ (of_decide_eq_true (by first | (with_reducible assumption) | assumption) : (ji32).toNat ≤ 281474976710656)) (by omega)) (Below.refl _ _) (Nat.le_refl _) ?_; intro v244 w35 ho36 hb hg_ hnew_; clear hg_ hnew_; (first | rw [← Ny243.out] at ho36 | (simp only [Int.reduceToNat] at ho36; rw [← Ny243.out] at ho36)); have n0_ := Aside0.mk (Kd.R_lower ho36 (below_size (by repeat (first | (with_reducible first | exact HB.out | apply below_alloc | apply pw_below_drewN | apply below_drew1) | exact HB.out)))); have n1_ := Aside0.mk (below_step (by repeat (first | (with_reducible first | exact HB.out | apply below_alloc | apply pw_below_drewN | apply below_drew1) | exact HB.out)) hb); clear HB; have HO245 := n0_; have HB := n1_; clear n0_ n1_; clear hb ho36; obtain ⟨Ao37, co37, eo37⟩ := Kd.R_slice HO245.out; subst eo37))
                    go_loopg [84] kj8 (fun kq v84 w' => ∃ (x13_3 : List Int) (x84_3 : Int), v84 = .int .i64 x84_3 ∧ Aside0 (entaillaw6_TokeBytes.l1 kq (Go.bits .and .i64 a1 31) (ji32) t235 t236 x12_8 x13_3 (y243.length : Int) x84_3 = some r) ∧ Aside0 (kq ≤ kj8) ∧ Aside0 (Kd.R (Kd.int .u8) 5 w' w.heap.size (fun _ => True) (.slice Ao37 y243.length co37) x13_3) ∧ Aside0 (Below w.heap.size w w'))
                    case atStart => exact ⟨(y243), (0), (by first | rfl | (simp; done) | (simp [*]; done)), H', ⟨Nat.le_refl _⟩, ⟨by (with_reducible repeat (first | apply Kd.R_alloc | apply Kd.R_drewN | apply Kd.R_drew)); exact HO245.out⟩, ⟨by repeat (first | (with_reducible first | exact HB.out | apply below_alloc | apply pw_below_drewN | apply below_drew1) | exact HB.out)⟩⟩
                    case round =>
                      clear H'
                      try clear c1
                      try clear hcv1
                      try clear c2
                      try clear p2
                      try clear c3
                      try clear c4
                      try clear c4b0
                      try clear c5
                      try clear c5b0
                      try clear c5b1
                      try clear c5b2
                      try clear c6
                      try clear c6b0
                      try clear c6b1
                      try clear c6b2
                      try clear p6
                      try clear c7
                      try clear c7b0
                      try clear c7b1
                      try clear c7b2
                      try clear hcv12
                      try clear c14
                      try clear c14b0
                      try clear c14b1
                      try clear c15
                      try clear c15b0
                      try clear c15b1
                      try clear c16
                      try clear c16b0
                      try clear c16b1
                      try clear c17
                      try clear c17b0
                      try clear c17b1
                      try clear c18
                      try clear c18b0
                      try clear c19
                      try clear c19b0
                      try clear c20
                      try clear c20b0
                      try clear c21
                      try clear c21b0
                      try clear c22
                      try clear c22b0
                      try clear c22b1
                      try clear c24
                      try clear c24b0
                      try clear c24b1
                      try clear c26
                      try clear c26b0
                      try clear c27
                      try clear c27b0
                      try clear c28
                      try clear c28b0
                      try clear c28b1
                      try clear c30
                      try clear c30b0
                      try clear c30b1
                      try clear c33
                      try clear c33b0
                      try clear c33b1
                      try clear c34
                      try clear c34b0
                      try clear c34b1
                      try clear p2
                      try clear p6
                      obtain ⟨x13_3, x84_3, rfl, HA, HK3, HO_13, HB⟩ := hrel
                      have hl13_3 := (Kd.R_reads' HO_13.out).1
                      rw [hl13_3] at HO_13
                      (try simp only [hl13_3])
                      cases gk with
                      | zero => exact absurd HA.out (by simp [entaillaw6_TokeBytes.l1])
                      | succ k3 =>
                        have H := HA.out
                        clear HA
                        simp only [entaillaw6_TokeBytes.l1] at H
                        by_cases c38 : x84_3 < (y243.length : Int)
                        · rw [if_pos c38] at H
                          have c38b0 : decide (x84_3 < (y243.length : Int)) = true := decide_eq_true c38
                          (try simp only [hl13_3] at c38b0)
                          clear c38
                          by_cases c39 : 0 ≤ x84_3
                          · rw [if_pos c39] at H
                            have c39b0 : decide (0 ≤ x84_3) = true := decide_eq_true c39
                            clear c39
                            by_cases c40 : x84_3 < (x13_3.length : Int)
                            · rw [if_pos c40] at H
                              have c40b0 : decide (x84_3 < (x13_3.length : Int)) = true := decide_eq_true c40
                              (try simp only [hl13_3] at c40b0)
                              clear c40
                              obtain ⟨y246, hy246⟩ : ∃ y_ : List Int, y_ = (x13_3.set (x84_3 : Int).toNat 32) := ⟨_, rfl⟩
                              replace H : (entaillaw6_TokeBytes.l1 k3 (Go.bits .and .i64 a1 31) (ji32) t235 t236 x12_8 y246 (y243.length : Int) (wrap64 (x84_3 + 1))) = some r := by first | (rw [hy246]; with_reducible exact H) | (have H2_ := (Option.bind_some _ _).symm.trans H; rw [hy246]; with_reducible exact H2_) | (have H2_ := (Option.bind_some _ _).symm.trans H; with_reducible exact H2_) | with_reducible exact H | (rw [hy246]; exact H) | exact H
                              have Ny246 := Aside0.mk hy246
                              clear hy246
                              have H' := Aside0.mk H
                              clear H
                              have p41 : 0 ≤ (x84_3 : Int) := of_decide_eq_true (by first | (with_reducible assumption) | assumption)
                              have q41 : (x84_3 : Int) < ((x13_3.length : Int) : Int) := of_decide_eq_true (by first | (with_reducible assumption) | assumption)
                              obtain ⟨go41, co41, eo41, gb41, gl41, cl41, HG41⟩ := Kd.R_form HO_13.out (by omega)
                              (first | cases eo41 | (injection eo41 with ea_ en_ ec_; (first | subst ea_ | (injection ea_ with ea_; subst ea_)); subst ec_; clear en_))
                              have GB41 := Aside0.mk gb41
                              have GG41 := Aside0.mk HG41
                              clear gb41 gl41 HG41
                              obtain ⟨hx41_0, hf41_0⟩ := Kd.R_celln 0 HO_13.out (x84_3 : Int) p41 q41
                              replace p41 := eq_true p41
                              replace q41 := eq_true q41
                              have HP42 := Kd.R_putg HO_13.out (x84_3 : Int) 32
                              go_wp2_with (first | ((with_reducible refine gate_store (t := 5) (p := 89) rfl ?_); refine store_event (t := 5) (p := 89) (v := ?vo_w43) (w1 := (wr.setCell ⟨go41, (x84_3 : Int).toNat, none⟩ (.int .u8 32))) ?hg ?ho ?hn ?hr ?_; (case ho => rfl); (case hg => rfl); (case hn => rfl); (case hr => first | (go_simp; done) | (go_simp; rfl)); intro w43 hw; have hg : wr.grownBy w43 (some go41) := (by rw [hw]; exact HP42.2); have hp_ : Kd.R (Kd.int .u8) 5 w43 w.heap.size (fun _ => True) (.slice (some ⟨go41, 0, none⟩) x13_3.length co37) y246 := (by rw [hw, Ny246.out]; exact HP42.1); clear HP42; have n0_ := Aside0.mk (hp_); have n1_ := Aside0.mk ((by rw [hw]; exact below_set (HB.out) GB41.out : Below w.heap.size w w43)); clear HO_13; clear HB; have HO_13 := n0_; have HB := n1_; clear n0_ n1_; clear hg hw hp_))
                              (try simp only [← hl13_3])
                              go_roundg k3
                              case measure => have := HK1.out; have := HJ8.out; have := HK3.out; omega
                              case rel => exact ⟨(y246), (wrap64 (x84_3 + 1)), (by first | rfl | (simp; done) | (simp [*]; done)), (by first | exact H' | (have h_ := H'; simp only [hji32] at h_ ⊢; exact h_) | (have h_ := H'; simp only [← hji32] at h_ ⊢; exact h_)), ⟨by have := HK1.out; have := HJ8.out; have := HK3.out; omega⟩, ⟨by (try simp only [hl13_3]); (with_reducible repeat (first | apply Kd.R_alloc | apply Kd.R_drewN | apply Kd.R_drew)); exact HO_13.out⟩, ⟨by repeat (first | (with_reducible first | exact HB.out | apply below_alloc | apply pw_below_drewN | apply below_drew1) | exact HB.out)⟩⟩
                            · rw [if_neg c40] at H
                              exact absurd H (by simp)
                          · rw [if_neg c39] at H
                            exact absurd H (by simp)
                        · rw [if_neg c38] at H
                          have c38b0 : decide (x84_3 < (y243.length : Int)) = false := decide_eq_false c38
                          (try simp only [hl13_3] at c38b0)
                          clear c38
                          replace H := Option.bind_eq_some_iff.mp H
                          obtain ⟨⟨t247, t248, t249⟩, A440, H⟩ := H
                          replace H : (if ((t236 == 0) == x12_8) = true then (if x12_8 = true then (if ((t249 == 8) == (decide ((ji32) > 100000))) = true then ((entaillaw6_awake.f k3).bind fun t252 => (some t252)) else (none)) else (if t236 = 7 then (if t235 = (wrap64 (2 * (Go.bits .and .i64 a1 31))) then (if ((t249 == 8) == (decide ((ji32) > 100000))) = true then ((entaillaw6_awake.f k3).bind fun t253 => (some t253)) else (none)) else (none)) else (none))) else (none)) = some r := H
                          have A44 := Aside0.mk A440
                          clear A440
                          by_cases c45 : ((t236 == 0) == x12_8) = true
                          · rw [if_pos c45] at H
                            have c45b0 : ((t236 == 0) == x12_8) = true := c45
                            (try (have c45b1 : decide ((t236 == 0) = x12_8) = true := by simpa using c45))
                            (try (have c45b2 : ((t236 == 0) == x12_8) = true := by simpa using c45))
                            clear c45
                            by_cases c46 : x12_8 = true
                            · subst c46
                              have H1 : (if ((t249 == 8) == (decide ((ji32) > 100000))) = true then ((entaillaw6_awake.f k3).bind fun t252 => (some t252)) else (none)) = some r := by rw [if_pos rfl] at H; exact H
                              clear H
                              have H := H1
                              clear H1
                              by_cases c47 : ((t249 == 8) == (decide ((ji32) > 100000))) = true
                              · rw [if_pos c47] at H
                                have c47b0 : ((t249 == 8) == (decide ((ji32) > 100000))) = true := c47
                                (try (have c47b1 : decide ((t249 == 8) = (decide ((ji32) > 100000))) = true := by simpa using c47))
                                (try (have c47b2 : ((t249 == 8) == (decide ((ji32) > 100000))) = true := by simpa using c47))
                                clear c47
                                replace H := Option.bind_eq_some_iff.mp H
                                obtain ⟨t252, A480, H⟩ := H
                                replace H : (some t252) = some r := H
                                have A48 := Aside0.mk A480
                                clear A480
                                obtain rfl := Option.some.inj H
                                have hcv49 := own_string (P := Try.prog) Try.underlying22 Try.underlying5 Try.underlying9 (Kd.own_of_R HO_13.out)
                                go_wp2_with (first | ((with_reducible refine gate_callee (f := 7) rfl ?_); refine goesL_ (some 94) rfl rfl Try.func7 (by kernel_rfl) rfl #[.string (strOfNums x13_3)] rfl (by (try simp only [List.map_toArray, List.map_cons, List.map_nil]); first | done | rfl | (simp only [List.length_drop, List.length_take]; rfl)) ?_; (with_reducible refine (toke_Tokens.calls k3 (strOfNums x13_3) t247 t248 t249 _ A44.out).mono ?_); rintro e w50 ⟨v250, rfl, ho0, hb⟩; refine ⟨_, rfl, ?_⟩; have n0_ := Aside0.mk (Kd.R_below (by (with_reducible repeat (first | apply Kd.R_alloc | apply Kd.R_drewN | apply Kd.R_drew)); exact HO_13.out) hb); have n1_ := Aside0.mk (Kd.R_lower ho0 (below_size (by repeat (first | (with_reducible first | exact HB.out | apply below_alloc | apply pw_below_drewN | apply below_drew1) | exact HB.out)))); have n2_ := Aside0.mk (below_step (by repeat (first | (with_reducible first | exact HB.out | apply below_alloc | apply pw_below_drewN | apply below_drew1) | exact HB.out)) hb); clear HO_13; clear HB; have HO_13 := n0_; have HO251 := n1_; have HB := n2_; clear n0_ n1_ n2_; (try clear hb); (try clear hb2); (try clear hk); (try clear hi); (try clear ho0)) | (go_at_call 8; (with_reducible refine (entaillaw6_awake.calls k3  t252 _ A48.out).mono ?_); rintro e w51 ⟨rfl, hb⟩; have n0_ := Aside0.mk (Kd.R_below (by (with_reducible repeat (first | apply Kd.R_alloc | apply Kd.R_drewN | apply Kd.R_drew)); exact HO_13.out) hb); have n1_ := Aside0.mk (Kd.R_below (by (with_reducible repeat (first | apply Kd.R_alloc | apply Kd.R_drewN | apply Kd.R_drew)); exact HO251.out) hb); have n2_ := Aside0.mk (below_step (by repeat (first | (with_reducible first | exact HB.out | apply below_alloc | apply pw_below_drewN | apply below_drew1) | exact HB.out)) hb); clear HO_13; clear HO251; clear HB; have HO_13 := n0_; have HO251 := n1_; have HB := n2_; clear n0_ n1_ n2_; (try clear hb); (try clear hb2); (try clear hk); (try clear hi)))
                                go_ret
                                exact ⟨by first | rfl | (simp [errW_none, errW_some] <;> rfl) | (simp only [← hji32]; first | rfl | (simp [errW_none, errW_some] <;> rfl)) | (simp [*, errW_none, errW_some] <;> rfl), by repeat (first | (with_reducible first | exact HB.out | apply below_alloc | apply pw_below_drewN | apply below_drew1) | exact HB.out)⟩
                              · rw [if_neg c47] at H
                                exact absurd H (by simp)
                            · replace c46 := Bool.eq_false_iff.mpr c46
                              subst c46
                              have H1 : (if t236 = 7 then (if t235 = (wrap64 (2 * (Go.bits .and .i64 a1 31))) then (if ((t249 == 8) == (decide ((ji32) > 100000))) = true then ((entaillaw6_awake.f k3).bind fun t253 => (some t253)) else (none)) else (none)) else (none)) = some r := by rw [if_neg (show ¬ (false = true) by decide)] at H; exact H
                              clear H
                              have H := H1
                              clear H1
                              by_cases c52 : t236 = 7
                              · rw [if_pos c52] at H
                                have c52b0 : (t236 == 7) = true := beq_iff_eq.mpr c52
                                have c52b1 : (t236 != 7) = false := bne_eq_false_iff_eq.mpr c52
                                clear c52
                                by_cases c53 : t235 = (wrap64 (2 * (Go.bits .and .i64 a1 31)))
                                · rw [if_pos c53] at H
                                  have c53b0 : (t235 == (wrap64 (2 * (Go.bits .and .i64 a1 31)))) = true := beq_iff_eq.mpr c53
                                  have c53b1 : (t235 != (wrap64 (2 * (Go.bits .and .i64 a1 31)))) = false := bne_eq_false_iff_eq.mpr c53
                                  clear c53
                                  by_cases c54 : ((t249 == 8) == (decide ((ji32) > 100000))) = true
                                  · rw [if_pos c54] at H
                                    have c54b0 : ((t249 == 8) == (decide ((ji32) > 100000))) = true := c54
                                    (try (have c54b1 : decide ((t249 == 8) = (decide ((ji32) > 100000))) = true := by simpa using c54))
                                    (try (have c54b2 : ((t249 == 8) == (decide ((ji32) > 100000))) = true := by simpa using c54))
                                    clear c54
                                    replace H := Option.bind_eq_some_iff.mp H
                                    obtain ⟨t253, A550, H⟩ := H
                                    replace H : (some t253) = some r := H
                                    have A55 := Aside0.mk A550
                                    clear A550
                                    obtain rfl := Option.some.inj H
                                    have hcv56 := own_string (P := Try.prog) Try.underlying22 Try.underlying5 Try.underlying9 (Kd.own_of_R HO_13.out)
                                    go_wp2_with (first | ((with_reducible refine gate_callee (f := 7) rfl ?_); refine goesL_ (some 94) rfl rfl Try.func7 (by kernel_rfl) rfl #[.string (strOfNums x13_3)] rfl (by (try simp only [List.map_toArray, List.map_cons, List.map_nil]); first | done | rfl | (simp only [List.length_drop, List.length_take]; rfl)) ?_; (with_reducible refine (toke_Tokens.calls k3 (strOfNums x13_3) t247 t248 t249 _ A44.out).mono ?_); rintro e w57 ⟨v250, rfl, ho0, hb⟩; refine ⟨_, rfl, ?_⟩; have n0_ := Aside0.mk (Kd.R_below (by (with_reducible repeat (first | apply Kd.R_alloc | apply Kd.R_drewN | apply Kd.R_drew)); exact HO_13.out) hb); have n1_ := Aside0.mk (Kd.R_lower ho0 (below_size (by repeat (first | (with_reducible first | exact HB.out | apply below_alloc | apply pw_below_drewN | apply below_drew1) | exact HB.out)))); have n2_ := Aside0.mk (below_step (by repeat (first | (with_reducible first | exact HB.out | apply below_alloc | apply pw_below_drewN | apply below_drew1) | exact HB.out)) hb); clear HO_13; clear HB; have HO_13 := n0_; have HO251 := n1_; have HB := n2_; clear n0_ n1_ n2_; (try clear hb); (try clear hb2); (try clear hk); (try clear hi); (try clear ho0)) | (go_at_call 8; (with_reducible refine (entaillaw6_awake.calls k3  t253 _ A55.out).mono ?_); rintro e w58 ⟨rfl, hb⟩; have n0_ := Aside0.mk (Kd.R_below (by (with_reducible repeat (first | apply Kd.R_alloc | apply Kd.R_drewN | apply Kd.R_drew)); exact HO_13.out) hb); have n1_ := Aside0.mk (Kd.R_below (by (with_reducible repeat (first | apply Kd.R_alloc | apply Kd.R_drewN | apply Kd.R_drew)); exact HO251.out) hb); have n2_ := Aside0.mk (below_step (by repeat (first | (with_reducible first | exact HB.out | apply below_alloc | apply pw_below_drewN | apply below_drew1) | exact HB.out)) hb); clear HO_13; clear HO251; clear HB; have HO_13 := n0_; have HO251 := n1_; have HB := n2_; clear n0_ n1_ n2_; (try clear hb); (try clear hb2); (try clear hk); (try clear hi)))
                                    go_ret
                                    exact ⟨by first | rfl | (simp [errW_none, errW_some] <;> rfl) | (simp only [← hji32]; first | rfl | (simp [errW_none, errW_some] <;> rfl)) | (simp [*, errW_none, errW_some] <;> rfl), by repeat (first | (with_reducible first | exact HB.out | apply below_alloc | apply pw_below_drewN | apply below_drew1) | exact HB.out)⟩
                                  · rw [if_neg c54] at H
                                    exact absurd H (by simp)
                                · rw [if_neg c53] at H
                                  exact absurd H (by simp)
                              · rw [if_neg c52] at H
                                exact absurd H (by simp)
                          · rw [if_neg c45] at H
                            exact absurd H (by simp)
                  · rw [if_neg c34] at H
                    exact absurd H (by simp)
                · rw [if_neg c33] at H
                  exact absurd H (by simp)
          · rw [if_neg c7] at H
            exact absurd H (by simp)
        · rw [if_neg c6] at H
          exact absurd H (by simp)

/-- THE ONE PURE STATEMENT of entaillaw6_TokeBytes: yours. -/
def entaillaw6_TokeBytes.Pure : Prop := ∀ (a0 : Int) (a1 : Int) (a2 : Int), (Lit.int .u8 a0).wf = true → (Lit.int .i64 a1).wf = true → (Lit.int .i64 a2).wf = true → ∃ k, entaillaw6_TokeBytes.f k a0 a1 a2 = some true
theorem entaillaw6_TokeBytes.walk (P : entaillaw6_TokeBytes.Pure) (a0 : Int) (a1 : Int) (a2 : Int) (w : World) (w0 : (Lit.int .u8 a0).wf = true) (w1 : (Lit.int .i64 a1).wf = true) (w2 : (Lit.int .i64 a2).wf = true) :
    Calls Try.prog 6 #[.int .u8 a0, .int .i64 a1, .int .i64 a2] w fun e w' => e = .returned (.bool true) ∧ Below w.heap.size w w' := by
  obtain ⟨k, h⟩ := P a0 a1 a2 w0 w1 w2
  refine (entaillaw6_TokeBytes.calls k a0 a1 a2 true w h).mono ?_
  rintro e w' ⟨rfl, hd⟩
  exact ⟨rfl, hd⟩

end Go.Proofs.Ytjgjcbhkalcjoaa.P
