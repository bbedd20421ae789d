/- Functions of the given program as plain Lean functions, and their contracts: written by a program of the prover. -/
import Derived.Test.YtjmlloiolppoiaaPx0
namespace Go.Proofs.Ytjmlloiolppoiaa.P
open Go.RowKit Go.Proofs.YtjmlloiolppoiaaW.PrintWords Go.Proofs.YtjmlloiolppoiaaW.PrintLast Go.Proofs.YtjmlloiolppoiaaW.PrintMore
attribute [local go_sem] max2_int min2_int max_two min_two max_three min_three max_four min_four   -- for this text's walks alone
set_option linter.unusedVariables false
set_option linter.unusedSimpArgs false

/-! ### atom_Join: function 31 -/
def atom_Join.f (a0 : ByteArray) (l1 : List ByteArray) : Option (ByteArray) := if a0.size + 1 ≤ 9223372036854775807 then ((strings_Join.f l1 (⟨#[47]⟩ : ByteArray)).bind fun t117 => (if (a0 ++ (⟨#[124]⟩ : ByteArray)).size + t117.size ≤ 9223372036854775807 then (some ((a0 ++ (⟨#[124]⟩ : ByteArray)) ++ t117)) else (none))) else (none)
set_option maxHeartbeats 8000000 in
set_option maxRecDepth 100000 in
theorem atom_Join.calls (a0 : ByteArray) (A1 : Option Addr) (c1 : Nat) (l1 : List ByteArray) (r : ByteArray) (w : World) (hr1 : Kd.C Kd.string w A1 l1.length l1) (hc1 : l1.length ≤ c1) (h : atom_Join.f a0 l1 = some r) :
    Calls Try.prog 31 #[.string a0, .slice A1 l1.length c1] w fun e w' => e = .returned (.string r) ∧ Below w.heap.size w w' := by
  have HR1 := Aside0.mk hr1
  have HC1 := Aside0.mk hc1
  clear hr1 hc1
  have HB := Aside0.mk (Below.refl w.heap.size w)
  have H : (if a0.size + 1 ≤ 9223372036854775807 then ((strings_Join.f l1 (⟨#[47]⟩ : ByteArray)).bind fun t117 => (if (a0 ++ (⟨#[124]⟩ : ByteArray)).size + t117.size ≤ 9223372036854775807 then (some ((a0 ++ (⟨#[124]⟩ : ByteArray)) ++ t117)) else (none))) else (none)) = some r := h
  clear h
  by_cases c3 : a0.size + 1 ≤ 9223372036854775807
  · rw [if_pos c3] at H
    have c3b0 := eq_true c3
    have c3b1 : decide (a0.size + 1 ≤ 9223372036854775807) = true := decide_eq_true c3
    try have c3b2 : (9223372036854775807 < a0.size + 1) = False := eq_false (Nat.not_lt.2 c3)
    replace H := Option.bind_eq_some_iff.mp H
    obtain ⟨t117, A40, H⟩ := H
    replace H : (if (a0 ++ (⟨#[124]⟩ : ByteArray)).size + t117.size ≤ 9223372036854775807 then (some ((a0 ++ (⟨#[124]⟩ : ByteArray)) ++ t117)) else (none)) = some r := H
    have A4 := Aside0.mk A40
    clear A40
    by_cases c5 : (a0 ++ (⟨#[124]⟩ : ByteArray)).size + t117.size ≤ 9223372036854775807
    · rw [if_pos c5] at H
      have c5e := c5
      (try simp only [ByteArray.size_append, ByteArray.size_extract, Nat.min_self, show (⟨#[124]⟩ : ByteArray).size = 1 from rfl] at c5e)
      have c5e0 := eq_true c5e
      have c5e1 := decide_eq_true c5e
      (try have c5e2 := eq_false (Nat.not_lt.2 c5e))
      clear c5e
      have c5b0 := eq_true c5
      have c5b1 : decide ((a0 ++ (⟨#[124]⟩ : ByteArray)).size + t117.size ≤ 9223372036854775807) = true := decide_eq_true c5
      try have c5b2 : (9223372036854775807 < (a0 ++ (⟨#[124]⟩ : ByteArray)).size + t117.size) = False := eq_false (Nat.not_lt.2 c5)
      obtain rfl := Option.some.inj H
      go_enter Try.func31, Try.ntmps31
      go_wp2_with (first | ((with_reducible refine gate_callee (f := 42) rfl ?_); refine goesL_ (some 8) rfl rfl Try.func42 (by kernel_rfl) rfl #[.slice A1 l1.length c1, .string (⟨#[47]⟩ : ByteArray)] rfl (by (try simp only [List.map_toArray, List.map_cons, List.map_nil]); first | done | rfl | (simp only [List.length_drop, List.length_take]; rfl)) ?_; (with_reducible refine (strings_Join.calls _ _ l1 (⟨#[47]⟩ : ByteArray) t117 _ ?side1 ?side2 A4.out).mono ?_); (case side1 => repeat (first | exact HR1.out | (with_reducible refine Kd.C_alloc ?_ _) | (with_reducible refine Kd.C_drewN ?_ _) | (with_reducible refine Kd.C_drew ?_))); (case side2 => exact HC1.out); rintro e w6 ⟨rfl, hb⟩; refine ⟨_, rfl, ?_⟩; have n0_ := Aside0.mk (below_step (by repeat (first | (with_reducible first | exact HB.out | apply below_alloc | apply pw_below_drewN | apply below_drew1) | exact HB.out)) hb); clear HB; have HB := n0_; clear n0_; (try clear hb); (try clear hb2); (try clear hk); (try clear hi)))
      go_ret
      exact ⟨by first | rfl | (simp [errW_none, errW_some] <;> rfl) | (simp [*, errW_none, errW_some] <;> rfl), by repeat (first | (with_reducible first | exact HB.out | apply below_alloc | apply pw_below_drewN | apply below_drew1) | exact HB.out)⟩
    · rw [if_neg c5] at H
      exact absurd H (by simp)
  · rw [if_neg c3] at H
    exact absurd H (by simp)

end Go.Proofs.Ytjmlloiolppoiaa.P
