/- Functions of the given program as plain Lean functions, and their contracts: written by a program of the prover. -/
import Derived.Test.YtjmlloiolppoiaaPx0
import Derived.Test.YtjmlloiolppoiaaPx2
import Derived.Test.YtjmlloiolppoiaaPx3
import Derived.Test.YtjmlloiolppoiaaPx4
namespace Go.Proofs.Ytjmlloiolppoiaa.P
open Go.RowKit Go.Proofs.YtjmlloiolppoiaaW.PrintWords Go.Proofs.YtjmlloiolppoiaaW.PrintLast Go.Proofs.YtjmlloiolppoiaaW.PrintMore
attribute [local go_sem] max2_int min2_int max_two min_two max_three min_three max_four min_four   -- for this text's walks alone
set_option linter.unusedVariables false
set_option linter.unusedSimpArgs false

/-! ### entaillaw1_AtomTells: function 9 -/
mutual
def entaillaw1_AtomTells.j0 : Nat → ByteArray → ByteArray → List ByteArray → Bool → Option (Bool)
  | 0, _, _, _, _ => none
  | k + 1, x0, x1, x2, x26 => if x26 = true then ((entaillaw1_awake.f k).bind fun t160 => (some t160)) else (entaillaw1_AtomTells.l0 k x0 x1 x2 0)
def entaillaw1_AtomTells.l0 : Nat → ByteArray → ByteArray → List ByteArray → Int → Option (Bool)
  | 0, _, _, _, _ => none
  | k + 1, x0, x1, x2, x7 => if x7 < (x2.length : Int) then (if 0 ≤ x7 then (if ((rdOf ByteArray.empty x2 x7).size : Int) > 100 then ((entaillaw1_awake.f k).bind fun t162 => (some t162)) else (entaillaw1_AtomTells.l0 k x0 x1 x2 (wrap64 (x7 + 1)))) else (none)) else ((atom_Split.f k x0).bind fun bt163 => ((entailref1_Split.f k x0).bind fun bt166 => ((atom_Name.f k x0).bind fun t169 => ((entailref1_Name.f k x0).bind fun t170 => (if (t169 == t170) = true then ((atom_ID.f k x0).bind fun t171 => ((entailref1_ID.f k x0).bind fun t172 => (if (t171 == t172) = true then ((atom_Join.f x1 x2).bind fun t173 => ((entailref1_Join.f k x1 x2).bind fun t174 => (if t173.toList = t174.toList then (if bt163.1.toList = bt166.1.toList then (if bt163.2.1.toList = bt166.2.1.toList then (if (bt163.2.2 == bt166.2.2) = true then ((entaillaw1_awake.f k).bind fun t175 => (some t175)) else (none)) else (none)) else (none)) else (none)))) else (none)))) else (none))))))
end
def entaillaw1_AtomTells.f (k : Nat) (a0 : ByteArray) (a1 : ByteArray) (l2 : List ByteArray) : Option (Bool) := if (a0.size : Int) > 400 then (entaillaw1_AtomTells.j0 k a0 a1 l2 true) else (if (a1.size : Int) > 100 then (entaillaw1_AtomTells.j0 k a0 a1 l2 true) else (entaillaw1_AtomTells.j0 k a0 a1 l2 (decide ((l2.length : Int) > 20))))
theorem entaillaw1_AtomTells.mono_l : ∀ k, (∀ y0 y1 y2 y3, LeO (entaillaw1_AtomTells.j0 k y0 y1 y2 y3) (entaillaw1_AtomTells.j0 (k + 1) y0 y1 y2 y3)) ∧ (∀ y0 y1 y2 y3, LeO (entaillaw1_AtomTells.l0 k y0 y1 y2 y3) (entaillaw1_AtomTells.l0 (k + 1) y0 y1 y2 y3))
  | 0 => ⟨fun _ _ _ _ r h => by simp [entaillaw1_AtomTells.j0] at h, fun _ _ _ _ r h => by simp [entaillaw1_AtomTells.l0] at h⟩
  | k + 1 => by
    obtain ⟨ih0, ih1⟩ := entaillaw1_AtomTells.mono_l k
    refine ⟨?_, ?_⟩
    · intro y0 y1 y2 y3
      unfold entaillaw1_AtomTells.j0
      repeat' first
      | (with_reducible exact ih0 _ _ _ _)
      | (with_reducible exact ih1 _ _ _ _)
      | (with_reducible exact atom_ID.mono _ _)
      | (with_reducible exact atom_Name.mono _ _)
      | (with_reducible exact atom_Split.mono _ _)
      | (with_reducible exact entaillaw1_awake.mono _)
      | (with_reducible exact entailref1_ID.mono _ _)
      | (with_reducible exact entailref1_Join.mono _ _ _)
      | (with_reducible exact entailref1_Name.mono _ _)
      | (with_reducible exact entailref1_Split.mono _ _)
      | (with_reducible exact LeO.refl _)
      | (with_reducible exact LeO.none _)
      | (with_reducible refine LeO.ite ?_ ?_)
      | (with_reducible refine LeO.bind ?_ (fun _ => ?_))
      | exact ih0 _ _ _ _
      | exact ih1 _ _ _ _
      | exact atom_ID.mono _ _
      | exact atom_Name.mono _ _
      | exact atom_Split.mono _ _
      | exact entaillaw1_awake.mono _
      | exact entailref1_ID.mono _ _
      | exact entailref1_Join.mono _ _ _
      | exact entailref1_Name.mono _ _
      | exact entailref1_Split.mono _ _
      | exact LeO.none _
      | refine LeO.ite ?_ ?_
      | refine LeO.bind ?_ (fun _ => ?_)
    · intro y0 y1 y2 y3
      unfold entaillaw1_AtomTells.l0
      repeat' first
      | (with_reducible exact ih0 _ _ _ _)
      | (with_reducible exact ih1 _ _ _ _)
      | (with_reducible exact atom_ID.mono _ _)
      | (with_reducible exact atom_Name.mono _ _)
      | (with_reducible exact atom_Split.mono _ _)
      | (with_reducible exact entaillaw1_awake.mono _)
      | (with_reducible exact entailref1_ID.mono _ _)
      | (with_reducible exact entailref1_Join.mono _ _ _)
      | (with_reducible exact entailref1_Name.mono _ _)
      | (with_reducible exact entailref1_Split.mono _ _)
      | (with_reducible exact LeO.refl _)
      | (with_reducible exact LeO.none _)
      | (with_reducible refine LeO.ite ?_ ?_)
      | (with_reducible refine LeO.bind ?_ (fun _ => ?_))
      | exact ih0 _ _ _ _
      | exact ih1 _ _ _ _
      | exact atom_ID.mono _ _
      | exact atom_Name.mono _ _
      | exact atom_Split.mono _ _
      | exact entaillaw1_awake.mono _
      | exact entailref1_ID.mono _ _
      | exact entailref1_Join.mono _ _ _
      | exact entailref1_Name.mono _ _
      | exact entailref1_Split.mono _ _
      | exact LeO.none _
      | refine LeO.ite ?_ ?_
      | refine LeO.bind ?_ (fun _ => ?_)
theorem entaillaw1_AtomTells.mono : ∀ a0 a1 a2 k, LeO (entaillaw1_AtomTells.f k a0 a1 a2) (entaillaw1_AtomTells.f (k + 1) a0 a1 a2) := by
  intro a0 a1 a2 k
  obtain ⟨ih0, ih1⟩ := entaillaw1_AtomTells.mono_l k
  unfold entaillaw1_AtomTells.f
  repeat' first
      | (with_reducible exact ih0 _ _ _ _)
      | (with_reducible exact ih1 _ _ _ _)
      | (with_reducible exact atom_ID.mono _ _)
      | (with_reducible exact atom_Name.mono _ _)
      | (with_reducible exact atom_Split.mono _ _)
      | (with_reducible exact entaillaw1_awake.mono _)
      | (with_reducible exact entailref1_ID.mono _ _)
      | (with_reducible exact entailref1_Join.mono _ _ _)
      | (with_reducible exact entailref1_Name.mono _ _)
      | (with_reducible exact entailref1_Split.mono _ _)
      | (with_reducible exact LeO.refl _)
      | (with_reducible exact LeO.none _)
      | (with_reducible refine LeO.ite ?_ ?_)
      | (with_reducible refine LeO.bind ?_ (fun _ => ?_))
      | exact ih0 _ _ _ _
      | exact ih1 _ _ _ _
      | exact atom_ID.mono _ _
      | exact atom_Name.mono _ _
      | exact atom_Split.mono _ _
      | exact entaillaw1_awake.mono _
      | exact entailref1_ID.mono _ _
      | exact entailref1_Join.mono _ _ _
      | exact entailref1_Name.mono _ _
      | exact entailref1_Split.mono _ _
      | exact LeO.none _
      | refine LeO.ite ?_ ?_
      | refine LeO.bind ?_ (fun _ => ?_)
set_option maxHeartbeats 8000000 in
set_option maxRecDepth 100000 in
theorem entaillaw1_AtomTells.calls (k : Nat) (a0 : ByteArray) (a1 : ByteArray) (A2 : Option Addr) (c2 : Nat) (l2 : List ByteArray) (r : Bool) (w : World) (hr2 : Kd.C Kd.string w A2 l2.length l2) (hc2 : l2.length ≤ c2) (h : entaillaw1_AtomTells.f k a0 a1 l2 = some r) :
    Calls Try.prog 9 #[.string a0, .string a1, .slice A2 l2.length c2] w fun e w' => e = .returned (.bool r) ∧ Below w.heap.size w w' := by
  have HR2 := Aside0.mk hr2
  have HC2 := Aside0.mk hc2
  clear hr2 hc2
  have HB := Aside0.mk (Below.refl w.heap.size w)
  have H : (if (a0.size : Int) > 400 then (entaillaw1_AtomTells.j0 k a0 a1 l2 true) else (if (a1.size : Int) > 100 then (entaillaw1_AtomTells.j0 k a0 a1 l2 true) else (entaillaw1_AtomTells.j0 k a0 a1 l2 (decide ((l2.length : Int) > 20))))) = some r := h
  clear h
  have HC4 := Aside0.mk H
  clear H
  go_enter Try.func9, Try.ntmps9
  go_upto_region 1 with (fail)
  go_cut [26] (fun v26 wc => ∃ (kq : Nat) (x26_3 : Bool), v26 = .bool x26_3 ∧ Aside0 (entaillaw1_AtomTells.j0 kq a0 a1 l2 x26_3 = some r) ∧ Aside0 (kq ≤ k) ∧ Aside0 (Below w.heap.size w wc))
  case first =>
    have H := HC4.out
    clear HC4
    by_cases c5 : (a0.size : Int) > 400
    · rw [if_pos c5] at H
      have c5b0 : decide (400 < (a0.size : Int)) = true := decide_eq_true c5
      have c5b1 : decide (400 < a0.size) = true := decide_eq_true (by omega)
      clear c5
      (first | rw [c5b0] | (simp only [i64_w, i32_w]; rw [c5b0]) | skip)
      have H' := Aside0.mk H
      clear H
      go_wp2
      go_meet
      case rel => exact ⟨_, (true), (by first | rfl | (simp; done) | (simp [*]; done)), H', ⟨by first | omega | exact Nat.le_refl _⟩, ⟨by repeat (first | (with_reducible first | exact HB.out | apply below_alloc | apply pw_below_drewN | apply below_drew1) | exact HB.out)⟩⟩
    · rw [if_neg c5] at H
      have c5b0 : decide (400 < (a0.size : Int)) = false := decide_eq_false c5
      have c5b1 : decide (400 < a0.size) = false := decide_eq_false (by omega)
      clear c5
      (first | rw [c5b0] | (simp only [i64_w, i32_w]; rw [c5b0]) | skip)
      by_cases c6 : (a1.size : Int) > 100
      · rw [if_pos c6] at H
        have c6b0 : decide (100 < (a1.size : Int)) = true := decide_eq_true c6
        have c6b1 : decide (100 < a1.size) = true := decide_eq_true (by omega)
        clear c6
        have H' := Aside0.mk H
        clear H
        go_wp2
        go_meet
        case rel => exact ⟨_, (true), (by first | rfl | (simp; done) | (simp [*]; done)), H', ⟨by first | omega | exact Nat.le_refl _⟩, ⟨by repeat (first | (with_reducible first | exact HB.out | apply below_alloc | apply pw_below_drewN | apply below_drew1) | exact HB.out)⟩⟩
      · rw [if_neg c6] at H
        have c6b0 : decide (100 < (a1.size : Int)) = false := decide_eq_false c6
        have c6b1 : decide (100 < a1.size) = false := decide_eq_false (by omega)
        clear c6
        have H' := Aside0.mk H
        clear H
        go_wp2
        go_meet
        case rel => exact ⟨_, (decide ((l2.length : Int) > 20)), (by first | rfl | (simp; done) | (simp [*]; done)), H', ⟨by first | omega | exact Nat.le_refl _⟩, ⟨by repeat (first | (with_reducible first | exact HB.out | apply below_alloc | apply pw_below_drewN | apply below_drew1) | exact HB.out)⟩⟩
  case rest =>
    clear HC4
    try clear c2
    try clear p2
    try clear c5
    try clear c5b0
    try clear c5b1
    try clear c6
    try clear c6b0
    try clear c6b1
    obtain ⟨kq, x26_3, rfl, HA, HJ3, HB⟩ := hcut
    cases kq with
    | zero => exact absurd HA.out (by simp [entaillaw1_AtomTells.j0])
    | succ kj3 =>
      have H := HA.out
      clear HA
      simp only [entaillaw1_AtomTells.j0] at H
      by_cases c7 : x26_3 = true
      · subst c7
        have H1 : ((entaillaw1_awake.f kj3).bind fun t160 => (some t160)) = some r := by rw [if_pos rfl] at H; exact H
        clear H
        have H := H1
        clear H1
        replace H := Option.bind_eq_some_iff.mp H
        obtain ⟨t160, A80, H⟩ := H
        replace H : (some t160) = some r := H
        have A8 := Aside0.mk A80
        clear A80
        obtain rfl := Option.some.inj H
        go_wp2_with (first | ((with_reducible refine gate_callee (f := 25) rfl ?_); refine goesL_ (some 27) rfl rfl Try.func25 (by kernel_rfl) rfl #[] rfl (by (try simp only [List.map_toArray, List.map_cons, List.map_nil]); first | done | rfl | (simp only [List.length_drop, List.length_take]; rfl)) ?_; (with_reducible refine (entaillaw1_awake.calls kj3  t160 _ A8.out).mono ?_); rintro e w9 ⟨rfl, hb⟩; refine ⟨_, rfl, ?_⟩; have n0_ := Aside0.mk (below_step (by repeat (first | (with_reducible first | exact HB.out | apply below_alloc | apply pw_below_drewN | apply below_drew1) | exact HB.out)) hb); clear HB; have HB := n0_; clear n0_; (try clear hb); (try clear hb2); (try clear hk); (try clear hi)))
        go_ret
        exact ⟨by first | rfl | (simp [errW_none, errW_some] <;> rfl) | (simp [*, errW_none, errW_some] <;> rfl), by repeat (first | (with_reducible first | exact HB.out | apply below_alloc | apply pw_below_drewN | apply below_drew1) | exact HB.out)⟩
      · replace c7 := Bool.eq_false_iff.mpr c7
        subst c7
        have H1 : (entaillaw1_AtomTells.l0 kj3 a0 a1 l2 0) = some r := by rw [if_neg (show ¬ (false = true) by decide)] at H; exact H
        clear H
        have H := H1
        clear H1
        have H' := Aside0.mk H
        clear H
        go_wp2
        go_loopg [7] kj3 (fun kq v7 w' => ∃ (x7_2 : Int), v7 = .int .i64 x7_2 ∧ Aside0 (entaillaw1_AtomTells.l0 kq a0 a1 l2 x7_2 = some r) ∧ Aside0 (kq ≤ kj3) ∧ Aside0 (Below w.heap.size w w'))
        case atStart => exact ⟨(0), (by first | rfl | (simp; done) | (simp [*]; done)), H', ⟨Nat.le_refl _⟩, ⟨by repeat (first | (with_reducible first | exact HB.out | apply below_alloc | apply pw_below_drewN | apply below_drew1) | exact HB.out)⟩⟩
        case round =>
          clear H'
          try clear c2
          try clear p2
          try clear c5
          try clear c5b0
          try clear c5b1
          try clear c6
          try clear c6b0
          try clear c6b1
          try clear c7
          try clear c9
          try clear p2
          obtain ⟨x7_2, rfl, HA, HK2, HB⟩ := hrel
          cases gk with
          | zero => exact absurd HA.out (by simp [entaillaw1_AtomTells.l0])
          | succ k2 =>
            have H := HA.out
            clear HA
            simp only [entaillaw1_AtomTells.l0] at H
            by_cases c10 : x7_2 < (l2.length : Int)
            · rw [if_pos c10] at H
              have c10b0 : decide (x7_2 < (l2.length : Int)) = true := decide_eq_true c10
              clear c10
              by_cases c11 : 0 ≤ x7_2
              · rw [if_pos c11] at H
                have c11b0 : decide (0 ≤ x7_2) = true := decide_eq_true c11
                clear c11
                by_cases c12 : ((rdOf ByteArray.empty l2 x7_2).size : Int) > 100
                · rw [if_pos c12] at H
                  have c12b0 : decide (100 < ((rdOf ByteArray.empty l2 x7_2).size : Int)) = true := decide_eq_true c12
                  have c12b1 : decide (100 < (rdOf ByteArray.empty l2 x7_2).size) = true := decide_eq_true (by omega)
                  clear c12
                  replace H := Option.bind_eq_some_iff.mp H
                  obtain ⟨t162, A130, H⟩ := H
                  replace H : (some t162) = some r := H
                  have A13 := Aside0.mk A130
                  clear A130
                  obtain rfl := Option.some.inj H
                  have p161 : 0 ≤ (x7_2 : Int) := of_decide_eq_true (by first | (with_reducible assumption) | assumption)
                  have q161 : x7_2 < (l2.length : Int) := of_decide_eq_true (by first | (with_reducible assumption) | assumption)
                  obtain ⟨ad161, e161, hx161_0⟩ := Kd.at_string HR2.out x7_2 p161 q161
                  cases e161
                  replace hx161_0 := (HB.out.cell (World.block_lt_of_cell? w _ hx161_0)).trans hx161_0
                  replace p161 := eq_true p161
                  replace q161 := eq_true q161
                  go_wp2_with (first | ((with_reducible refine gate_callee (f := 25) rfl ?_); refine goesL_ (some 40) rfl rfl Try.func25 (by kernel_rfl) rfl #[] rfl (by (try simp only [List.map_toArray, List.map_cons, List.map_nil]); first | done | rfl | (simp only [List.length_drop, List.length_take]; rfl)) ?_; (with_reducible refine (entaillaw1_awake.calls k2  t162 _ A13.out).mono ?_); rintro e w14 ⟨rfl, hb⟩; refine ⟨_, rfl, ?_⟩; have n0_ := Aside0.mk (below_step (by repeat (first | (with_reducible first | exact HB.out | apply below_alloc | apply pw_below_drewN | apply below_drew1) | exact HB.out)) hb); clear HB; have HB := n0_; clear n0_; (try clear hb); (try clear hb2); (try clear hk); (try clear hi)))
                  go_ret
                  exact ⟨by first | rfl | (simp [errW_none, errW_some] <;> rfl) | (simp [*, errW_none, errW_some] <;> rfl), by repeat (first | (with_reducible first | exact HB.out | apply below_alloc | apply pw_below_drewN | apply below_drew1) | exact HB.out)⟩
                · rw [if_neg c12] at H
                  have c12b0 : decide (100 < ((rdOf ByteArray.empty l2 x7_2).size : Int)) = false := decide_eq_false c12
                  have c12b1 : decide (100 < (rdOf ByteArray.empty l2 x7_2).size) = false := decide_eq_false (by omega)
                  clear c12
                  have H' := Aside0.mk H
                  clear H
                  have p161 : 0 ≤ (x7_2 : Int) := of_decide_eq_true (by first | (with_reducible assumption) | assumption)
                  have q161 : x7_2 < (l2.length : Int) := of_decide_eq_true (by first | (with_reducible assumption) | assumption)
                  obtain ⟨ad161, e161, hx161_0⟩ := Kd.at_string HR2.out x7_2 p161 q161
                  cases e161
                  replace hx161_0 := (HB.out.cell (World.block_lt_of_cell? w _ hx161_0)).trans hx161_0
                  replace p161 := eq_true p161
                  replace q161 := eq_true q161
                  go_wp2
                  go_roundg k2
                  case measure => have := HJ3.out; have := HK2.out; omega
                  case rel => exact ⟨(wrap64 (x7_2 + 1)), (by first | rfl | (simp; done) | (simp [*]; done)), H', ⟨by have := HJ3.out; have := HK2.out; omega⟩, ⟨by repeat (first | (with_reducible first | exact HB.out | apply below_alloc | apply pw_below_drewN | apply below_drew1) | exact HB.out)⟩⟩
              · rw [if_neg c11] at H
                exact absurd H (by simp)
            · rw [if_neg c10] at H
              have c10b0 : decide (x7_2 < (l2.length : Int)) = false := decide_eq_false c10
              clear c10
              replace H := Option.bind_eq_some_iff.mp H
              obtain ⟨⟨t163, t164, t165⟩, A150, H⟩ := H
              replace H : ((entailref1_Split.f k2 a0).bind fun bt166 => ((atom_Name.f k2 a0).bind fun t169 => ((entailref1_Name.f k2 a0).bind fun t170 => (if (t169 == t170) = true then ((atom_ID.f k2 a0).bind fun t171 => ((entailref1_ID.f k2 a0).bind fun t172 => (if (t171 == t172) = true then ((atom_Join.f a1 l2).bind fun t173 => ((entailref1_Join.f k2 a1 l2).bind fun t174 => (if t173.toList = t174.toList then (if t163.toList = bt166.1.toList then (if t164.toList = bt166.2.1.toList then (if (t165 == bt166.2.2) = true then ((entaillaw1_awake.f k2).bind fun t175 => (some t175)) else (none)) else (none)) else (none)) else (none)))) else (none)))) else (none))))) = some r := H
              have A15 := Aside0.mk A150
              clear A150
              replace H := Option.bind_eq_some_iff.mp H
              obtain ⟨⟨t166, t167, t168⟩, A160, H⟩ := H
              replace H : ((atom_Name.f k2 a0).bind fun t169 => ((entailref1_Name.f k2 a0).bind fun t170 => (if (t169 == t170) = true then ((atom_ID.f k2 a0).bind fun t171 => ((entailref1_ID.f k2 a0).bind fun t172 => (if (t171 == t172) = true then ((atom_Join.f a1 l2).bind fun t173 => ((entailref1_Join.f k2 a1 l2).bind fun t174 => (if t173.toList = t174.toList then (if t163.toList = t166.toList then (if t164.toList = t167.toList then (if (t165 == t168) = true then ((entaillaw1_awake.f k2).bind fun t175 => (some t175)) else (none)) else (none)) else (none)) else (none)))) else (none)))) else (none)))) = some r := H
              have A16 := Aside0.mk A160
              clear A160
              replace H := Option.bind_eq_some_iff.mp H
              obtain ⟨t169, A170, H⟩ := H
              replace H : ((entailref1_Name.f k2 a0).bind fun t170 => (if (t169 == t170) = true then ((atom_ID.f k2 a0).bind fun t171 => ((entailref1_ID.f k2 a0).bind fun t172 => (if (t171 == t172) = true then ((atom_Join.f a1 l2).bind fun t173 => ((entailref1_Join.f k2 a1 l2).bind fun t174 => (if t173.toList = t174.toList then (if t163.toList = t166.toList then (if t164.toList = t167.toList then (if (t165 == t168) = true then ((entaillaw1_awake.f k2).bind fun t175 => (some t175)) else (none)) else (none)) else (none)) else (none)))) else (none)))) else (none))) = some r := H
              have A17 := Aside0.mk A170
              clear A170
              replace H := Option.bind_eq_some_iff.mp H
              obtain ⟨t170, A180, H⟩ := H
              replace H : (if (t169 == t170) = true then ((atom_ID.f k2 a0).bind fun t171 => ((entailref1_ID.f k2 a0).bind fun t172 => (if (t171 == t172) = true then ((atom_Join.f a1 l2).bind fun t173 => ((entailref1_Join.f k2 a1 l2).bind fun t174 => (if t173.toList = t174.toList then (if t163.toList = t166.toList then (if t164.toList = t167.toList then (if (t165 == t168) = true then ((entaillaw1_awake.f k2).bind fun t175 => (some t175)) else (none)) else (none)) else (none)) else (none)))) else (none)))) else (none)) = some r := H
              have A18 := Aside0.mk A180
              clear A180
              by_cases c19 : (t169 == t170) = true
              · rw [if_pos c19] at H
                have c19b0 : (t169 == t170) = true := c19
                (try (have c19b1 : decide (t169 = t170) = true := by simpa using c19))
                (try (have c19b2 : (t169 == t170) = true := by simpa using c19))
                clear c19
                replace H := Option.bind_eq_some_iff.mp H
                obtain ⟨t171, A200, H⟩ := H
                replace H : ((entailref1_ID.f k2 a0).bind fun t172 => (if (t171 == t172) = true then ((atom_Join.f a1 l2).bind fun t173 => ((entailref1_Join.f k2 a1 l2).bind fun t174 => (if t173.toList = t174.toList then (if t163.toList = t166.toList then (if t164.toList = t167.toList then (if (t165 == t168) = true then ((entaillaw1_awake.f k2).bind fun t175 => (some t175)) else (none)) else (none)) else (none)) else (none)))) else (none))) = some r := H
                have A20 := Aside0.mk A200
                clear A200
                replace H := Option.bind_eq_some_iff.mp H
                obtain ⟨t172, A210, H⟩ := H
                replace H : (if (t171 == t172) = true then ((atom_Join.f a1 l2).bind fun t173 => ((entailref1_Join.f k2 a1 l2).bind fun t174 => (if t173.toList = t174.toList then (if t163.toList = t166.toList then (if t164.toList = t167.toList then (if (t165 == t168) = true then ((entaillaw1_awake.f k2).bind fun t175 => (some t175)) else (none)) else (none)) else (none)) else (none)))) else (none)) = some r := H
                have A21 := Aside0.mk A210
                clear A210
                by_cases c22 : (t171 == t172) = true
                · rw [if_pos c22] at H
                  have c22b0 : (t171 == t172) = true := c22
                  (try (have c22b1 : decide (t171 = t172) = true := by simpa using c22))
                  (try (have c22b2 : (t171 == t172) = true := by simpa using c22))
                  clear c22
                  replace H := Option.bind_eq_some_iff.mp H
                  obtain ⟨t173, A230, H⟩ := H
                  replace H : ((entailref1_Join.f k2 a1 l2).bind fun t174 => (if t173.toList = t174.toList then (if t163.toList = t166.toList then (if t164.toList = t167.toList then (if (t165 == t168) = true then ((entaillaw1_awake.f k2).bind fun t175 => (some t175)) else (none)) else (none)) else (none)) else (none))) = some r := H
                  have A23 := Aside0.mk A230
                  clear A230
                  replace H := Option.bind_eq_some_iff.mp H
                  obtain ⟨t174, A240, H⟩ := H
                  replace H : (if t173.toList = t174.toList then (if t163.toList = t166.toList then (if t164.toList = t167.toList then (if (t165 == t168) = true then ((entaillaw1_awake.f k2).bind fun t175 => (some t175)) else (none)) else (none)) else (none)) else (none)) = some r := H
                  have A24 := Aside0.mk A240
                  clear A240
                  by_cases c25 : t173.toList = t174.toList
                  · rw [if_pos c25] at H
                    have c25b0 : (t173.toList == t174.toList) = true := beq_iff_eq.mpr c25
                    have c25b1 : (t173.toList != t174.toList) = false := bne_eq_false_iff_eq.mpr c25
                    clear c25
                    by_cases c26 : t163.toList = t166.toList
                    · rw [if_pos c26] at H
                      have c26b0 : (t163.toList == t166.toList) = true := beq_iff_eq.mpr c26
                      have c26b1 : (t163.toList != t166.toList) = false := bne_eq_false_iff_eq.mpr c26
                      clear c26
                      by_cases c27 : t164.toList = t167.toList
                      · rw [if_pos c27] at H
                        have c27b0 : (t164.toList == t167.toList) = true := beq_iff_eq.mpr c27
                        have c27b1 : (t164.toList != t167.toList) = false := bne_eq_false_iff_eq.mpr c27
                        clear c27
                        by_cases c28 : (t165 == t168) = true
                        · rw [if_pos c28] at H
                          have c28b0 : (t165 == t168) = true := c28
                          (try (have c28b1 : decide (t165 = t168) = true := by simpa using c28))
                          (try (have c28b2 : (t165 == t168) = true := by simpa using c28))
                          clear c28
                          replace H := Option.bind_eq_some_iff.mp H
                          obtain ⟨t175, A290, H⟩ := H
                          replace H : (some t175) = some r := H
                          have A29 := Aside0.mk A290
                          clear A290
                          obtain rfl := Option.some.inj H
                          go_wp2_with (first | ((with_reducible refine gate_callee (f := 24) rfl ?_); refine goesL_ (some 43) rfl rfl Try.func24 (by kernel_rfl) rfl #[.string a0] rfl (by (try simp only [List.map_toArray, List.map_cons, List.map_nil]); first | done | rfl | (simp only [List.length_drop, List.length_take]; rfl)) ?_; (with_reducible refine (atom_Split.calls k2 a0 t163 t164 t165 _ A15.out).mono ?_); rintro e w' ⟨rfl, ⟨nd, rfl⟩⟩; refine ⟨_, rfl, ?_⟩) | ((with_reducible refine gate_callee (f := 26) rfl ?_); refine goesL_ (some 49) rfl rfl Try.func26 (by kernel_rfl) rfl #[.string a0] rfl (by (try simp only [List.map_toArray, List.map_cons, List.map_nil]); first | done | rfl | (simp only [List.length_drop, List.length_take]; rfl)) ?_; (with_reducible refine (entailref1_Split.calls k2 a0 t166 t167 t168 _ A16.out).mono ?_); rintro e w' ⟨rfl, ⟨nd, rfl⟩⟩; refine ⟨_, rfl, ?_⟩) | ((with_reducible refine gate_callee (f := 27) rfl ?_); refine goesL_ (some 54) rfl rfl Try.func27 (by kernel_rfl) rfl #[.string a0] rfl (by (try simp only [List.map_toArray, List.map_cons, List.map_nil]); first | done | rfl | (simp only [List.length_drop, List.length_take]; rfl)) ?_; (with_reducible refine (atom_Name.calls k2 a0 t169 _ A17.out).mono ?_); rintro e w' ⟨rfl, ⟨nd, rfl⟩⟩; refine ⟨_, rfl, ?_⟩) | ((with_reducible refine gate_callee (f := 28) rfl ?_); refine goesL_ (some 56) rfl rfl Try.func28 (by kernel_rfl) rfl #[.string a0] rfl (by (try simp only [List.map_toArray, List.map_cons, List.map_nil]); first | done | rfl | (simp only [List.length_drop, List.length_take]; rfl)) ?_; (with_reducible refine (entailref1_Name.calls k2 a0 t170 _ A18.out).mono ?_); rintro e w' ⟨rfl, ⟨nd, rfl⟩⟩; refine ⟨_, rfl, ?_⟩) | (go_at_call 29; (with_reducible refine (atom_ID.calls k2 a0 t171 _ A20.out).mono ?_); rintro e w' ⟨rfl, ⟨nd, rfl⟩⟩) | (go_at_call 30; (with_reducible refine (entailref1_ID.calls k2 a0 t172 _ A21.out).mono ?_); rintro e w' ⟨rfl, ⟨nd, rfl⟩⟩) | (go_at_call 31; (with_reducible refine (atom_Join.calls a1 _ _ l2 t173 _ ?side1 ?side2 A23.out).mono ?_); (case side1 => repeat (first | exact (Kd.C_below HR2.out (by repeat (first | (with_reducible first | exact HB.out | apply below_alloc | apply pw_below_drewN | apply below_drew1) | exact HB.out))) | (with_reducible refine Kd.C_alloc ?_ _) | (with_reducible refine Kd.C_drewN ?_ _) | (with_reducible refine Kd.C_drew ?_))); (case side2 => exact HC2.out); rintro e w30 ⟨rfl, hb⟩; have n0_ := Aside0.mk (below_step (by repeat (first | (with_reducible first | exact HB.out | apply below_alloc | apply pw_below_drewN | apply below_drew1) | exact HB.out)) hb); clear HB; have HB := n0_; clear n0_; (try clear hb); (try clear hb2); (try clear hk); (try clear hi)) | (go_at_call 32; (with_reducible refine (entailref1_Join.calls k2 a1 _ _ l2 t174 _ ?side1 ?side2 A24.out).mono ?_); (case side1 => repeat (first | exact (Kd.C_below HR2.out HB.out) | (with_reducible refine Kd.C_alloc ?_ _) | (with_reducible refine Kd.C_drewN ?_ _) | (with_reducible refine Kd.C_drew ?_))); (case side2 => exact HC2.out); rintro e w' ⟨rfl, ⟨nd, rfl⟩⟩) | (go_at_call 25; (with_reducible refine (entaillaw1_awake.calls k2  t175 _ A29.out).mono ?_); rintro e w31 ⟨rfl, hb⟩; have n0_ := Aside0.mk (below_step (by repeat (first | (with_reducible first | exact HB.out | apply below_alloc | apply pw_below_drewN | apply below_drew1) | exact HB.out)) hb); clear HB; have HB := n0_; clear n0_; (try clear hb); (try clear hb2); (try clear hk); (try clear hi)))
                          go_ret
                          exact ⟨by first | rfl | (simp [errW_none, errW_some] <;> rfl) | (simp [*, errW_none, errW_some] <;> rfl), by repeat (first | (with_reducible first | exact HB.out | apply below_alloc | apply pw_below_drewN | apply below_drew1) | exact HB.out)⟩
                        · rw [if_neg c28] at H
                          exact absurd H (by simp)
                      · rw [if_neg c27] at H
                        exact absurd H (by simp)
                    · rw [if_neg c26] at H
                      exact absurd H (by simp)
                  · rw [if_neg c25] at H
                    exact absurd H (by simp)
                · rw [if_neg c22] at H
                  exact absurd H (by simp)
              · rw [if_neg c19] at H
                exact absurd H (by simp)

/-! ### entaillaw1_Tame: function 33 -/
mutual
def entaillaw1_Tame.l0 : Nat → ByteArray → ByteArray → Int → Option (ByteArray)
  | 0, _, _, _ => none
  | k + 1, x0, x3, x4 => if x4 < (x0.size : Int) then (entaillaw1_Tame.j1 k x0 x3 x4 (decide ((x3.size : Int) < 12))) else (entaillaw1_Tame.j1 k x0 x3 x4 false)
def entaillaw1_Tame.j1 : Nat → ByteArray → ByteArray → Int → Bool → Option (ByteArray)
  | 0, _, _, _, _ => none
  | k + 1, x0, x3, x4, x13 => if x13 = true then (if 0 ≤ x4 then (if x4 ≤ (wrap64 (x4 + 1)) then (if (wrap64 (x4 + 1)) ≤ (x0.size : Int) then (if 1 + (x0.extract (x4 : Int).toNat ((wrap64 (x4 + 1)) : Int).toNat).size ≤ 9223372036854775807 then ((entailref1_Name.f k ((⟨#[110]⟩ : ByteArray) ++ (x0.extract (x4 : Int).toNat ((wrap64 (x4 + 1)) : Int).toNat))).bind fun t176 => (if t176 = true then (if x3.size + (x0.extract (x4 : Int).toNat ((wrap64 (x4 + 1)) : Int).toNat).size ≤ 9223372036854775807 then (entaillaw1_Tame.l0 k x0 (x3 ++ (x0.extract (x4 : Int).toNat ((wrap64 (x4 + 1)) : Int).toNat)) (wrap64 (x4 + 1))) else (none)) else (entaillaw1_Tame.l0 k x0 x3 (wrap64 (x4 + 1))))) else (none)) else (none)) else (none)) else (none)) else (some x3)
end
def entaillaw1_Tame.f (k : Nat) (a0 : ByteArray) : Option (ByteArray) := entaillaw1_Tame.l0 k a0 (⟨#[110]⟩ : ByteArray) 0
theorem entaillaw1_Tame.mono_l : ∀ k, (∀ y0 y1 y2, LeO (entaillaw1_Tame.l0 k y0 y1 y2) (entaillaw1_Tame.l0 (k + 1) y0 y1 y2)) ∧ (∀ y0 y1 y2 y3, LeO (entaillaw1_Tame.j1 k y0 y1 y2 y3) (entaillaw1_Tame.j1 (k + 1) y0 y1 y2 y3))
  | 0 => ⟨fun _ _ _ r h => by simp [entaillaw1_Tame.l0] at h, fun _ _ _ _ r h => by simp [entaillaw1_Tame.j1] at h⟩
  | k + 1 => by
    obtain ⟨ih0, ih1⟩ := entaillaw1_Tame.mono_l k
    refine ⟨?_, ?_⟩
    · intro y0 y1 y2
      unfold entaillaw1_Tame.l0
      repeat' first
      | (with_reducible exact ih0 _ _ _)
      | (with_reducible exact ih1 _ _ _ _)
      | (with_reducible exact entailref1_Name.mono _ _)
      | (with_reducible exact LeO.refl _)
      | (with_reducible exact LeO.none _)
      | (with_reducible refine LeO.ite ?_ ?_)
      | (with_reducible refine LeO.bind ?_ (fun _ => ?_))
      | exact ih0 _ _ _
      | exact ih1 _ _ _ _
      | exact entailref1_Name.mono _ _
      | exact LeO.none _
      | refine LeO.ite ?_ ?_
      | refine LeO.bind ?_ (fun _ => ?_)
    · intro y0 y1 y2 y3
      unfold entaillaw1_Tame.j1
      repeat' first
      | (with_reducible exact ih0 _ _ _)
      | (with_reducible exact ih1 _ _ _ _)
      | (with_reducible exact entailref1_Name.mono _ _)
      | (with_reducible exact LeO.refl _)
      | (with_reducible exact LeO.none _)
      | (with_reducible refine LeO.ite ?_ ?_)
      | (with_reducible refine LeO.bind ?_ (fun _ => ?_))
      | exact ih0 _ _ _
      | exact ih1 _ _ _ _
      | exact entailref1_Name.mono _ _
      | exact LeO.none _
      | refine LeO.ite ?_ ?_
      | refine LeO.bind ?_ (fun _ => ?_)
theorem entaillaw1_Tame.mono : ∀ a0 k, LeO (entaillaw1_Tame.f k a0) (entaillaw1_Tame.f (k + 1) a0) := by
  intro a0 k
  obtain ⟨ih0, ih1⟩ := entaillaw1_Tame.mono_l k
  unfold entaillaw1_Tame.f
  repeat' first
      | (with_reducible exact ih0 _ _ _)
      | (with_reducible exact ih1 _ _ _ _)
      | (with_reducible exact entailref1_Name.mono _ _)
      | (with_reducible exact LeO.refl _)
      | (with_reducible exact LeO.none _)
      | (with_reducible refine LeO.ite ?_ ?_)
      | (with_reducible refine LeO.bind ?_ (fun _ => ?_))
      | exact ih0 _ _ _
      | exact ih1 _ _ _ _
      | exact entailref1_Name.mono _ _
      | exact LeO.none _
      | refine LeO.ite ?_ ?_
      | refine LeO.bind ?_ (fun _ => ?_)
set_option maxHeartbeats 8000000 in
set_option maxRecDepth 100000 in
theorem entaillaw1_Tame.calls (k : Nat) (a0 : ByteArray) (r : ByteArray) (w : World) (h : entaillaw1_Tame.f k a0 = some r) :
    Calls Try.prog 33 #[.string a0] w fun e w' => e = .returned (.string r) ∧ Drawn0 w w' := by
  have H : (entaillaw1_Tame.l0 k a0 (⟨#[110]⟩ : ByteArray) 0) = some r := h
  clear h
  have H' := Aside0.mk H
  clear H
  go_enter Try.func33, Try.ntmps33
  go_wp2
  go_loopg [3, 4] k (fun kq v3 v4 w' => ∃ (x3_1 : ByteArray) (x4_1 : Int), v3 = .string x3_1 ∧ v4 = .int .i64 x4_1 ∧ Aside0 (entaillaw1_Tame.l0 kq a0 x3_1 x4_1 = some r) ∧ Aside0 (kq ≤ k) ∧ Drawn0 w w')
  case atStart => exact ⟨((⟨#[110]⟩ : ByteArray)), (0), (by first | rfl | (simp; done) | (simp [*]; done)), (by first | rfl | (simp; done) | (simp [*]; done)), H', ⟨Nat.le_refl _⟩, by repeat (first | exact Drawn0.refl _ | apply Drawn0.step)⟩
  case round =>
    clear H'
    obtain ⟨x3_1, x4_1, rfl, rfl, HA, HK1, ⟨m1, rfl⟩⟩ := hrel
    cases gk with
    | zero => exact absurd HA.out (by simp [entaillaw1_Tame.l0])
    | succ k1 =>
      have H := HA.out
      clear HA
      simp only [entaillaw1_Tame.l0] at H
      have HC2 := Aside0.mk H
      clear H
      go_upto_region 3 with (fail)
      go_cut [13] (fun v13 wc => ∃ (kq : Nat) (x13_1 : Bool), v13 = .bool x13_1 ∧ Aside0 (entaillaw1_Tame.j1 kq a0 x3_1 x4_1 x13_1 = some r) ∧ Aside0 (kq ≤ k1) ∧ Drawn0 w wc)
      case first =>
        have H := HC2.out
        clear HC2
        by_cases c3 : x4_1 < (a0.size : Int)
        · rw [if_pos c3] at H
          have c3b0 : decide (x4_1 < (a0.size : Int)) = true := decide_eq_true c3
          clear c3
          (first | rw [c3b0] | (simp only [i64_w, i32_w]; rw [c3b0]) | skip)
          have H' := Aside0.mk H
          clear H
          go_wp2
          go_meet
          case rel => exact ⟨_, (decide ((x3_1.size : Int) < 12)), (by first | rfl | (simp; done) | (simp [*]; done)), H', ⟨by have := HK1.out; first | omega | exact Nat.le_refl _⟩, by repeat (first | exact Drawn0.refl _ | apply Drawn0.step)⟩
        · rw [if_neg c3] at H
          have c3b0 : decide (x4_1 < (a0.size : Int)) = false := decide_eq_false c3
          clear c3
          (first | rw [c3b0] | (simp only [i64_w, i32_w]; rw [c3b0]) | skip)
          have H' := Aside0.mk H
          clear H
          go_wp2
          go_meet
          case rel => exact ⟨_, (false), (by first | rfl | (simp; done) | (simp [*]; done)), H', ⟨by have := HK1.out; first | omega | exact Nat.le_refl _⟩, by repeat (first | exact Drawn0.refl _ | apply Drawn0.step)⟩
      case rest =>
        clear HC2
        try clear p2
        try clear c3
        try clear c3b0
        obtain ⟨kq, x13_1, rfl, HA, HJ1, ⟨mc1, rfl⟩⟩ := hcut
        cases kq with
        | zero => exact absurd HA.out (by simp [entaillaw1_Tame.j1])
        | succ kj1 =>
          have H := HA.out
          clear HA
          simp only [entaillaw1_Tame.j1] at H
          by_cases c4 : x13_1 = true
          · subst c4
            have H1 : (if 0 ≤ x4_1 then (if x4_1 ≤ (wrap64 (x4_1 + 1)) then (if (wrap64 (x4_1 + 1)) ≤ (a0.size : Int) then (if 1 + (a0.extract (x4_1 : Int).toNat ((wrap64 (x4_1 + 1)) : Int).toNat).size ≤ 9223372036854775807 then ((entailref1_Name.f kj1 ((⟨#[110]⟩ : ByteArray) ++ (a0.extract (x4_1 : Int).toNat ((wrap64 (x4_1 + 1)) : Int).toNat))).bind fun t176 => (if t176 = true then (if x3_1.size + (a0.extract (x4_1 : Int).toNat ((wrap64 (x4_1 + 1)) : Int).toNat).size ≤ 9223372036854775807 then (entaillaw1_Tame.l0 kj1 a0 (x3_1 ++ (a0.extract (x4_1 : Int).toNat ((wrap64 (x4_1 + 1)) : Int).toNat)) (wrap64 (x4_1 + 1))) else (none)) else (entaillaw1_Tame.l0 kj1 a0 x3_1 (wrap64 (x4_1 + 1))))) else (none)) else (none)) else (none)) else (none)) = some r := by rw [if_pos rfl] at H; exact H
            clear H
            have H := H1
            clear H1
            by_cases c5 : 0 ≤ x4_1
            · rw [if_pos c5] at H
              have c5b0 := eq_true c5
              have c5b1 : decide (0 ≤ x4_1) = true := decide_eq_true c5
              clear c5
              by_cases c6 : x4_1 ≤ (wrap64 (x4_1 + 1))
              · rw [if_pos c6] at H
                have c6b0 := eq_true c6
                have c6b1 : decide (x4_1 ≤ (wrap64 (x4_1 + 1))) = true := decide_eq_true c6
                by_cases c7 : (wrap64 (x4_1 + 1)) ≤ (a0.size : Int)
                · rw [if_pos c7] at H
                  have c7b0 := eq_true c7
                  have c7b1 : decide ((wrap64 (x4_1 + 1)) ≤ (a0.size : Int)) = true := decide_eq_true c7
                  by_cases c8 : 1 + (a0.extract (x4_1 : Int).toNat ((wrap64 (x4_1 + 1)) : Int).toNat).size ≤ 9223372036854775807
                  · rw [if_pos c8] at H
                    have c8e := c8
                    (try simp only [ByteArray.size_append, ByteArray.size_extract, Nat.min_self] at c8e)
                    (try rw [Nat.min_eq_left (show ((wrap64 (x4_1 + 1)) : Int).toNat ≤ a0.size by first | omega | (have h_ : ((wrap64 (x4_1 + 1)) : Int) ≤ (a0.size : Int) := of_decide_eq_true (by assumption); omega))] at c8e)
                    have c8e0 := eq_true c8e
                    have c8e1 := decide_eq_true c8e
                    (try have c8e2 := eq_false (Nat.not_lt.2 c8e))
                    clear c8e
                    have c8b0 := eq_true c8
                    have c8b1 : decide (1 + (a0.extract (x4_1 : Int).toNat ((wrap64 (x4_1 + 1)) : Int).toNat).size ≤ 9223372036854775807) = true := decide_eq_true c8
                    try have c8b2 : (9223372036854775807 < 1 + (a0.extract (x4_1 : Int).toNat ((wrap64 (x4_1 + 1)) : Int).toNat).size) = False := eq_false (Nat.not_lt.2 c8)
                    replace H := Option.bind_eq_some_iff.mp H
                    obtain ⟨t176, A90, H⟩ := H
                    replace H : (if t176 = true then (if x3_1.size + (a0.extract (x4_1 : Int).toNat ((wrap64 (x4_1 + 1)) : Int).toNat).size ≤ 9223372036854775807 then (entaillaw1_Tame.l0 kj1 a0 (x3_1 ++ (a0.extract (x4_1 : Int).toNat ((wrap64 (x4_1 + 1)) : Int).toNat)) (wrap64 (x4_1 + 1))) else (none)) else (entaillaw1_Tame.l0 kj1 a0 x3_1 (wrap64 (x4_1 + 1)))) = some r := H
                    have A9 := Aside0.mk A90
                    clear A90
                    by_cases c10 : t176 = true
                    · subst c10
                      have H1 : (if x3_1.size + (a0.extract (x4_1 : Int).toNat ((wrap64 (x4_1 + 1)) : Int).toNat).size ≤ 9223372036854775807 then (entaillaw1_Tame.l0 kj1 a0 (x3_1 ++ (a0.extract (x4_1 : Int).toNat ((wrap64 (x4_1 + 1)) : Int).toNat)) (wrap64 (x4_1 + 1))) else (none)) = some r := by rw [if_pos rfl] at H; exact H
                      clear H
                      have H := H1
                      clear H1
                      have c11b0 := eq_true (of_decide_eq_true (by first | (with_reducible assumption) | assumption) : 0 ≤ x4_1)
                      have c12b0 := eq_true (of_decide_eq_true (by first | (with_reducible assumption) | assumption) : x4_1 ≤ (wrap64 (x4_1 + 1)))
                      have c13b0 := eq_true (of_decide_eq_true (by first | (with_reducible assumption) | assumption) : (wrap64 (x4_1 + 1)) ≤ (a0.size : Int))
                      by_cases c14 : x3_1.size + (a0.extract (x4_1 : Int).toNat ((wrap64 (x4_1 + 1)) : Int).toNat).size ≤ 9223372036854775807
                      · rw [if_pos c14] at H
                        have c14e := c14
                        (try simp only [ByteArray.size_append, ByteArray.size_extract, Nat.min_self] at c14e)
                        (try rw [Nat.min_eq_left (show ((wrap64 (x4_1 + 1)) : Int).toNat ≤ a0.size by first | omega | (have h_ : ((wrap64 (x4_1 + 1)) : Int) ≤ (a0.size : Int) := of_decide_eq_true (by assumption); omega))] at c14e)
                        have c14e0 := eq_true c14e
                        have c14e1 := decide_eq_true c14e
                        (try have c14e2 := eq_false (Nat.not_lt.2 c14e))
                        clear c14e
                        have c14b0 := eq_true c14
                        have c14b1 : decide (x3_1.size + (a0.extract (x4_1 : Int).toNat ((wrap64 (x4_1 + 1)) : Int).toNat).size ≤ 9223372036854775807) = true := decide_eq_true c14
                        try have c14b2 : (9223372036854775807 < x3_1.size + (a0.extract (x4_1 : Int).toNat ((wrap64 (x4_1 + 1)) : Int).toNat).size) = False := eq_false (Nat.not_lt.2 c14)
                        have H' := Aside0.mk H
                        clear H
                        go_wp2_with (first | ((with_reducible refine gate_callee (f := 28) rfl ?_); refine goesL_ (some 22) rfl rfl Try.func28 (by kernel_rfl) rfl #[.string ((⟨#[110]⟩ : ByteArray) ++ (a0.extract (x4_1 : Int).toNat ((wrap64 (x4_1 + 1)) : Int).toNat))] rfl (by (try simp only [List.map_toArray, List.map_cons, List.map_nil]); first | done | rfl | (simp only [List.length_drop, List.length_take]; rfl)) ?_; (with_reducible refine (entailref1_Name.calls kj1 ((⟨#[110]⟩ : ByteArray) ++ (a0.extract (x4_1 : Int).toNat ((wrap64 (x4_1 + 1)) : Int).toNat)) true _ A9.out).mono ?_); rintro e w' ⟨rfl, ⟨nd, rfl⟩⟩; refine ⟨_, rfl, ?_⟩))
                        go_roundg kj1
                        case measure => have := HK1.out; have := HJ1.out; omega
                        case rel => exact ⟨(x3_1 ++ (a0.extract (x4_1 : Int).toNat ((wrap64 (x4_1 + 1)) : Int).toNat)), (wrap64 (x4_1 + 1)), (by first | rfl | (simp; done) | (simp [*]; done)), (by first | rfl | (simp; done) | (simp [*]; done)), H', ⟨by have := HK1.out; have := HJ1.out; omega⟩, by repeat (first | exact Drawn0.refl _ | apply Drawn0.step)⟩
                      · rw [if_neg c14] at H
                        exact absurd H (by simp)
                    · replace c10 := Bool.eq_false_iff.mpr c10
                      subst c10
                      have H1 : (entaillaw1_Tame.l0 kj1 a0 x3_1 (wrap64 (x4_1 + 1))) = some r := by rw [if_neg (show ¬ (false = true) by decide)] at H; exact H
                      clear H
                      have H := H1
                      clear H1
                      have H' := Aside0.mk H
                      clear H
                      go_wp2_with (first | ((with_reducible refine gate_callee (f := 28) rfl ?_); refine goesL_ (some 22) rfl rfl Try.func28 (by kernel_rfl) rfl #[.string ((⟨#[110]⟩ : ByteArray) ++ (a0.extract (x4_1 : Int).toNat ((wrap64 (x4_1 + 1)) : Int).toNat))] rfl (by (try simp only [List.map_toArray, List.map_cons, List.map_nil]); first | done | rfl | (simp only [List.length_drop, List.length_take]; rfl)) ?_; (with_reducible refine (entailref1_Name.calls kj1 ((⟨#[110]⟩ : ByteArray) ++ (a0.extract (x4_1 : Int).toNat ((wrap64 (x4_1 + 1)) : Int).toNat)) false _ A9.out).mono ?_); rintro e w' ⟨rfl, ⟨nd, rfl⟩⟩; refine ⟨_, rfl, ?_⟩))
                      go_roundg kj1
                      case measure => have := HK1.out; have := HJ1.out; omega
                      case rel => exact ⟨(x3_1), (wrap64 (x4_1 + 1)), (by first | rfl | (simp; done) | (simp [*]; done)), (by first | rfl | (simp; done) | (simp [*]; done)), H', ⟨by have := HK1.out; have := HJ1.out; omega⟩, by repeat (first | exact Drawn0.refl _ | apply Drawn0.step)⟩
                  · rw [if_neg c8] at H
                    exact absurd H (by simp)
                · rw [if_neg c7] at H
                  exact absurd H (by simp)
              · rw [if_neg c6] at H
                exact absurd H (by simp)
            · rw [if_neg c5] at H
              exact absurd H (by simp)
          · replace c4 := Bool.eq_false_iff.mpr c4
            subst c4
            have H1 : (some x3_1) = some r := by rw [if_neg (show ¬ (false = true) by decide)] at H; exact H
            clear H
            have H := H1
            clear H1
            obtain rfl := Option.some.inj H
            go_wp2
            go_ret
            exact ⟨by first | rfl | (simp; done) | (simp [*]; done), by repeat (first | exact Drawn0.refl _ | apply Drawn0.step)⟩

/-! ### entaillaw1_AtomBack: function 10 -/
def entaillaw1_AtomBack.j0 : Nat → ByteArray → ByteArray → List ByteArray → List ByteArray → Bool → Option (Bool)
  | 0, _, _, _, _, _ => none
  | k + 1, x0, x1, x2, x3, x19 => if x19 = true then ((entaillaw1_awake.f k).bind fun t177 => (some t177)) else ((entaillaw1_Tame.f k x0).bind fun t178 => ((entaillaw1_Tame.f k x1).bind fun t179 => ((atom_Join.f t178 x2).bind fun t180 => ((atom_Split.f k t180).bind fun bt181 => (if bt181.2.2 = true then (if bt181.1.toList = t178.toList then ((entailref1_Glue.f k x2 (⟨#[47]⟩ : ByteArray)).bind fun t184 => (if bt181.2.1.toList = t184.toList then (if t178.toList = t179.toList then ((atom_Name.f k t178).bind fun t185 => (if t185 = true then ((entaillaw1_awake.f k).bind fun t186 => (some t186)) else (none))) else ((atom_Join.f t178 x2).bind fun t187 => ((atom_Join.f t179 x3).bind fun t188 => (if t187.toList = t188.toList then (none) else ((atom_Name.f k t178).bind fun t189 => (if t189 = true then ((entaillaw1_awake.f k).bind fun t190 => (some t190)) else (none))))))) else (none))) else (none)) else (none))))))
def entaillaw1_AtomBack.f (k : Nat) (a0 : ByteArray) (a1 : ByteArray) (l2 : List ByteArray) (l3 : List ByteArray) : Option (Bool) := if (l2.length : Int) > 10 then (entaillaw1_AtomBack.j0 k a0 a1 l2 l3 true) else (entaillaw1_AtomBack.j0 k a0 a1 l2 l3 (decide ((l3.length : Int) > 10)))
theorem entaillaw1_AtomBack.mono_l : ∀ k, (∀ y0 y1 y2 y3 y4, LeO (entaillaw1_AtomBack.j0 k y0 y1 y2 y3 y4) (entaillaw1_AtomBack.j0 (k + 1) y0 y1 y2 y3 y4))
  | 0 => fun _ _ _ _ _ r h => by simp [entaillaw1_AtomBack.j0] at h
  | k + 1 => by
    have ih0 := entaillaw1_AtomBack.mono_l k
    · intro y0 y1 y2 y3 y4
      unfold entaillaw1_AtomBack.j0
      repeat' first
      | (with_reducible exact ih0 _ _ _ _ _)
      | (with_reducible exact atom_Name.mono _ _)
      | (with_reducible exact atom_Split.mono _ _)
      | (with_reducible exact entaillaw1_Tame.mono _ _)
      | (with_reducible exact entaillaw1_awake.mono _)
      | (with_reducible exact entailref1_Glue.mono _ _ _)
      | (with_reducible exact LeO.refl _)
      | (with_reducible exact LeO.none _)
      | (with_reducible refine LeO.ite ?_ ?_)
      | (with_reducible refine LeO.bind ?_ (fun _ => ?_))
      | exact ih0 _ _ _ _ _
      | exact atom_Name.mono _ _
      | exact atom_Split.mono _ _
      | exact entaillaw1_Tame.mono _ _
      | exact entaillaw1_awake.mono _
      | exact entailref1_Glue.mono _ _ _
      | exact LeO.none _
      | refine LeO.ite ?_ ?_
      | refine LeO.bind ?_ (fun _ => ?_)
theorem entaillaw1_AtomBack.mono : ∀ a0 a1 a2 a3 k, LeO (entaillaw1_AtomBack.f k a0 a1 a2 a3) (entaillaw1_AtomBack.f (k + 1) a0 a1 a2 a3) := by
  intro a0 a1 a2 a3 k
  have ih0 := entaillaw1_AtomBack.mono_l k
  unfold entaillaw1_AtomBack.f
  repeat' first
      | (with_reducible exact ih0 _ _ _ _ _)
      | (with_reducible exact atom_Name.mono _ _)
      | (with_reducible exact atom_Split.mono _ _)
      | (with_reducible exact entaillaw1_Tame.mono _ _)
      | (with_reducible exact entaillaw1_awake.mono _)
      | (with_reducible exact entailref1_Glue.mono _ _ _)
      | (with_reducible exact LeO.refl _)
      | (with_reducible exact LeO.none _)
      | (with_reducible refine LeO.ite ?_ ?_)
      | (with_reducible refine LeO.bind ?_ (fun _ => ?_))
      | exact ih0 _ _ _ _ _
      | exact atom_Name.mono _ _
      | exact atom_Split.mono _ _
      | exact entaillaw1_Tame.mono _ _
      | exact entaillaw1_awake.mono _
      | exact entailref1_Glue.mono _ _ _
      | exact LeO.none _
      | refine LeO.ite ?_ ?_
      | refine LeO.bind ?_ (fun _ => ?_)
set_option maxHeartbeats 8000000 in
set_option maxRecDepth 100000 in
theorem entaillaw1_AtomBack.calls (k : Nat) (a0 : ByteArray) (a1 : ByteArray) (A2 : Option Addr) (c2 : Nat) (l2 : List ByteArray) (A3 : Option Addr) (c3 : Nat) (l3 : List ByteArray) (r : Bool) (w : World) (hr2 : Kd.C Kd.string w A2 l2.length l2) (hc2 : l2.length ≤ c2) (hr3 : Kd.C Kd.string w A3 l3.length l3) (hc3 : l3.length ≤ c3) (h : entaillaw1_AtomBack.f k a0 a1 l2 l3 = some r) :
    Calls Try.prog 10 #[.string a0, .string a1, .slice A2 l2.length c2, .slice A3 l3.length c3] w fun e w' => e = .returned (.bool r) ∧ Below w.heap.size w w' := by
  have HR2 := Aside0.mk hr2
  have HC2 := Aside0.mk hc2
  clear hr2 hc2
  have HR3 := Aside0.mk hr3
  have HC3 := Aside0.mk hc3
  clear hr3 hc3
  have HB := Aside0.mk (Below.refl w.heap.size w)
  have H : (if (l2.length : Int) > 10 then (entaillaw1_AtomBack.j0 k a0 a1 l2 l3 true) else (entaillaw1_AtomBack.j0 k a0 a1 l2 l3 (decide ((l3.length : Int) > 10)))) = some r := h
  clear h
  have HC5 := Aside0.mk H
  clear H
  go_enter Try.func10, Try.ntmps10
  go_upto_region 1 with (fail)
  go_cut [19] (fun v19 wc => ∃ (kq : Nat) (x19_4 : Bool), v19 = .bool x19_4 ∧ Aside0 (entaillaw1_AtomBack.j0 kq a0 a1 l2 l3 x19_4 = some r) ∧ Aside0 (kq ≤ k) ∧ Aside0 (Below w.heap.size w wc))
  case first =>
    have H := HC5.out
    clear HC5
    by_cases c6 : (l2.length : Int) > 10
    · rw [if_pos c6] at H
      have c6b0 : decide (10 < (l2.length : Int)) = true := decide_eq_true c6
      have c6b1 : decide (10 < l2.length) = true := decide_eq_true (by omega)
      clear c6
      (first | rw [c6b0] | (simp only [i64_w, i32_w]; rw [c6b0]) | skip)
      have H' := Aside0.mk H
      clear H
      go_wp2
      go_meet
      case rel => exact ⟨_, (true), (by first | rfl | (simp; done) | (simp [*]; done)), H', ⟨by first | omega | exact Nat.le_refl _⟩, ⟨by repeat (first | (with_reducible first | exact HB.out | apply below_alloc | apply pw_below_drewN | apply below_drew1) | exact HB.out)⟩⟩
    · rw [if_neg c6] at H
      have c6b0 : decide (10 < (l2.length : Int)) = false := decide_eq_false c6
      have c6b1 : decide (10 < l2.length) = false := decide_eq_false (by omega)
      clear c6
      (first | rw [c6b0] | (simp only [i64_w, i32_w]; rw [c6b0]) | skip)
      have H' := Aside0.mk H
      clear H
      go_wp2
      go_meet
      case rel => exact ⟨_, (decide ((l3.length : Int) > 10)), (by first | rfl | (simp; done) | (simp [*]; done)), H', ⟨by first | omega | exact Nat.le_refl _⟩, ⟨by repeat (first | (with_reducible first | exact HB.out | apply below_alloc | apply pw_below_drewN | apply below_drew1) | exact HB.out)⟩⟩
  case rest =>
    clear HC5
    try clear c1
    try clear c2
    try clear p2
    try clear c3
    try clear c6
    try clear c6b0
    try clear c6b1
    obtain ⟨kq, x19_4, rfl, HA, HJ4, HB⟩ := hcut
    cases kq with
    | zero => exact absurd HA.out (by simp [entaillaw1_AtomBack.j0])
    | succ kj4 =>
      have H := HA.out
      clear HA
      simp only [entaillaw1_AtomBack.j0] at H
      by_cases c7 : x19_4 = true
      · subst c7
        have H1 : ((entaillaw1_awake.f kj4).bind fun t177 => (some t177)) = some r := by rw [if_pos rfl] at H; exact H
        clear H
        have H := H1
        clear H1
        replace H := Option.bind_eq_some_iff.mp H
        obtain ⟨t177, A80, H⟩ := H
        replace H : (some t177) = some r := H
        have A8 := Aside0.mk A80
        clear A80
        obtain rfl := Option.some.inj H
        go_wp2_with (first | ((with_reducible refine gate_callee (f := 25) rfl ?_); refine goesL_ (some 20) rfl rfl Try.func25 (by kernel_rfl) rfl #[] rfl (by (try simp only [List.map_toArray, List.map_cons, List.map_nil]); first | done | rfl | (simp only [List.length_drop, List.length_take]; rfl)) ?_; (with_reducible refine (entaillaw1_awake.calls kj4  t177 _ A8.out).mono ?_); rintro e w9 ⟨rfl, hb⟩; refine ⟨_, rfl, ?_⟩; have n0_ := Aside0.mk (below_step (by repeat (first | (with_reducible first | exact HB.out | apply below_alloc | apply pw_below_drewN | apply below_drew1) | exact HB.out)) hb); clear HB; have HB := n0_; clear n0_; (try clear hb); (try clear hb2); (try clear hk); (try clear hi)))
        go_ret
        exact ⟨by first | rfl | (simp [errW_none, errW_some] <;> rfl) | (simp [*, errW_none, errW_some] <;> rfl), by repeat (first | (with_reducible first | exact HB.out | apply below_alloc | apply pw_below_drewN | apply below_drew1) | exact HB.out)⟩
      · replace c7 := Bool.eq_false_iff.mpr c7
        subst c7
        have H1 : ((entaillaw1_Tame.f kj4 a0).bind fun t178 => ((entaillaw1_Tame.f kj4 a1).bind fun t179 => ((atom_Join.f t178 l2).bind fun t180 => ((atom_Split.f kj4 t180).bind fun bt181 => (if bt181.2.2 = true then (if bt181.1.toList = t178.toList then ((entailref1_Glue.f kj4 l2 (⟨#[47]⟩ : ByteArray)).bind fun t184 => (if bt181.2.1.toList = t184.toList then (if t178.toList = t179.toList then ((atom_Name.f kj4 t178).bind fun t185 => (if t185 = true then ((entaillaw1_awake.f kj4).bind fun t186 => (some t186)) else (none))) else ((atom_Join.f t178 l2).bind fun t187 => ((atom_Join.f t179 l3).bind fun t188 => (if t187.toList = t188.toList then (none) else ((atom_Name.f kj4 t178).bind fun t189 => (if t189 = true then ((entaillaw1_awake.f kj4).bind fun t190 => (some t190)) else (none))))))) else (none))) else (none)) else (none)))))) = some r := by rw [if_neg (show ¬ (false = true) by decide)] at H; exact H
        clear H
        have H := H1
        clear H1
        replace H := Option.bind_eq_some_iff.mp H
        obtain ⟨t178, A100, H⟩ := H
        replace H : ((entaillaw1_Tame.f kj4 a1).bind fun t179 => ((atom_Join.f t178 l2).bind fun t180 => ((atom_Split.f kj4 t180).bind fun bt181 => (if bt181.2.2 = true then (if bt181.1.toList = t178.toList then ((entailref1_Glue.f kj4 l2 (⟨#[47]⟩ : ByteArray)).bind fun t184 => (if bt181.2.1.toList = t184.toList then (if t178.toList = t179.toList then ((atom_Name.f kj4 t178).bind fun t185 => (if t185 = true then ((entaillaw1_awake.f kj4).bind fun t186 => (some t186)) else (none))) else ((atom_Join.f t178 l2).bind fun t187 => ((atom_Join.f t179 l3).bind fun t188 => (if t187.toList = t188.toList then (none) else ((atom_Name.f kj4 t178).bind fun t189 => (if t189 = true then ((entaillaw1_awake.f kj4).bind fun t190 => (some t190)) else (none))))))) else (none))) else (none)) else (none))))) = some r := H
        have A10 := Aside0.mk A100
        clear A100
        replace H := Option.bind_eq_some_iff.mp H
        obtain ⟨t179, A110, H⟩ := H
        replace H : ((atom_Join.f t178 l2).bind fun t180 => ((atom_Split.f kj4 t180).bind fun bt181 => (if bt181.2.2 = true then (if bt181.1.toList = t178.toList then ((entailref1_Glue.f kj4 l2 (⟨#[47]⟩ : ByteArray)).bind fun t184 => (if bt181.2.1.toList = t184.toList then (if t178.toList = t179.toList then ((atom_Name.f kj4 t178).bind fun t185 => (if t185 = true then ((entaillaw1_awake.f kj4).bind fun t186 => (some t186)) else (none))) else ((atom_Join.f t178 l2).bind fun t187 => ((atom_Join.f t179 l3).bind fun t188 => (if t187.toList = t188.toList then (none) else ((atom_Name.f kj4 t178).bind fun t189 => (if t189 = true then ((entaillaw1_awake.f kj4).bind fun t190 => (some t190)) else (none))))))) else (none))) else (none)) else (none)))) = some r := H
        have A11 := Aside0.mk A110
        clear A110
        replace H := Option.bind_eq_some_iff.mp H
        obtain ⟨t180, A120, H⟩ := H
        replace H : ((atom_Split.f kj4 t180).bind fun bt181 => (if bt181.2.2 = true then (if bt181.1.toList = t178.toList then ((entailref1_Glue.f kj4 l2 (⟨#[47]⟩ : ByteArray)).bind fun t184 => (if bt181.2.1.toList = t184.toList then (if t178.toList = t179.toList then ((atom_Name.f kj4 t178).bind fun t185 => (if t185 = true then ((entaillaw1_awake.f kj4).bind fun t186 => (some t186)) else (none))) else ((atom_Join.f t178 l2).bind fun t187 => ((atom_Join.f t179 l3).bind fun t188 => (if t187.toList = t188.toList then (none) else ((atom_Name.f kj4 t178).bind fun t189 => (if t189 = true then ((entaillaw1_awake.f kj4).bind fun t190 => (some t190)) else (none))))))) else (none))) else (none)) else (none))) = some r := H
        have A12 := Aside0.mk A120
        clear A120
        replace H := Option.bind_eq_some_iff.mp H
        obtain ⟨⟨t181, t182, t183⟩, A130, H⟩ := H
        replace H : (if t183 = true then (if t181.toList = t178.toList then ((entailref1_Glue.f kj4 l2 (⟨#[47]⟩ : ByteArray)).bind fun t184 => (if t182.toList = t184.toList then (if t178.toList = t179.toList then ((atom_Name.f kj4 t178).bind fun t185 => (if t185 = true then ((entaillaw1_awake.f kj4).bind fun t186 => (some t186)) else (none))) else ((atom_Join.f t178 l2).bind fun t187 => ((atom_Join.f t179 l3).bind fun t188 => (if t187.toList = t188.toList then (none) else ((atom_Name.f kj4 t178).bind fun t189 => (if t189 = true then ((entaillaw1_awake.f kj4).bind fun t190 => (some t190)) else (none))))))) else (none))) else (none)) else (none)) = some r := H
        have A13 := Aside0.mk A130
        clear A130
        by_cases c14 : t183 = true
        · subst c14
          have H1 : (if t181.toList = t178.toList then ((entailref1_Glue.f kj4 l2 (⟨#[47]⟩ : ByteArray)).bind fun t184 => (if t182.toList = t184.toList then (if t178.toList = t179.toList then ((atom_Name.f kj4 t178).bind fun t185 => (if t185 = true then ((entaillaw1_awake.f kj4).bind fun t186 => (some t186)) else (none))) else ((atom_Join.f t178 l2).bind fun t187 => ((atom_Join.f t179 l3).bind fun t188 => (if t187.toList = t188.toList then (none) else ((atom_Name.f kj4 t178).bind fun t189 => (if t189 = true then ((entaillaw1_awake.f kj4).bind fun t190 => (some t190)) else (none))))))) else (none))) else (none)) = some r := by rw [if_pos rfl] at H; exact H
          clear H
          have H := H1
          clear H1
          by_cases c15 : t181.toList = t178.toList
          · rw [if_pos c15] at H
            have c15b0 : (t181.toList == t178.toList) = true := beq_iff_eq.mpr c15
            have c15b1 : (t181.toList != t178.toList) = false := bne_eq_false_iff_eq.mpr c15
            clear c15
            replace H := Option.bind_eq_some_iff.mp H
            obtain ⟨t184, A160, H⟩ := H
            replace H : (if t182.toList = t184.toList then (if t178.toList = t179.toList then ((atom_Name.f kj4 t178).bind fun t185 => (if t185 = true then ((entaillaw1_awake.f kj4).bind fun t186 => (some t186)) else (none))) else ((atom_Join.f t178 l2).bind fun t187 => ((atom_Join.f t179 l3).bind fun t188 => (if t187.toList = t188.toList then (none) else ((atom_Name.f kj4 t178).bind fun t189 => (if t189 = true then ((entaillaw1_awake.f kj4).bind fun t190 => (some t190)) else (none))))))) else (none)) = some r := H
            have A16 := Aside0.mk A160
            clear A160
            by_cases c17 : t182.toList = t184.toList
            · rw [if_pos c17] at H
              have c17b0 : (t182.toList == t184.toList) = true := beq_iff_eq.mpr c17
              have c17b1 : (t182.toList != t184.toList) = false := bne_eq_false_iff_eq.mpr c17
              clear c17
              by_cases c18 : t178.toList = t179.toList
              · rw [if_pos c18] at H
                have c18b0 : (t178.toList == t179.toList) = true := beq_iff_eq.mpr c18
                have c18b1 : (t178.toList != t179.toList) = false := bne_eq_false_iff_eq.mpr c18
                clear c18
                replace H := Option.bind_eq_some_iff.mp H
                obtain ⟨t185, A190, H⟩ := H
                replace H : (if t185 = true then ((entaillaw1_awake.f kj4).bind fun t186 => (some t186)) else (none)) = some r := H
                have A19 := Aside0.mk A190
                clear A190
                by_cases c20 : t185 = true
                · subst c20
                  have H1 : ((entaillaw1_awake.f kj4).bind fun t186 => (some t186)) = some r := by rw [if_pos rfl] at H; exact H
                  clear H
                  have H := H1
                  clear H1
                  replace H := Option.bind_eq_some_iff.mp H
                  obtain ⟨t186, A210, H⟩ := H
                  replace H : (some t186) = some r := H
                  have A21 := Aside0.mk A210
                  clear A210
                  obtain rfl := Option.some.inj H
                  go_wp2_with (first | ((with_reducible refine gate_callee (f := 33) rfl ?_); refine goesL_ (some 22) rfl rfl Try.func33 (by kernel_rfl) rfl #[.string a0] rfl (by (try simp only [List.map_toArray, List.map_cons, List.map_nil]); first | done | rfl | (simp only [List.length_drop, List.length_take]; rfl)) ?_; (with_reducible refine (entaillaw1_Tame.calls kj4 a0 t178 _ A10.out).mono ?_); rintro e w' ⟨rfl, ⟨nd, rfl⟩⟩; refine ⟨_, rfl, ?_⟩) | ((with_reducible refine gate_callee (f := 33) rfl ?_); refine goesL_ (some 24) rfl rfl Try.func33 (by kernel_rfl) rfl #[.string a1] rfl (by (try simp only [List.map_toArray, List.map_cons, List.map_nil]); first | done | rfl | (simp only [List.length_drop, List.length_take]; rfl)) ?_; (with_reducible refine (entaillaw1_Tame.calls kj4 a1 t179 _ A11.out).mono ?_); rintro e w' ⟨rfl, ⟨nd, rfl⟩⟩; refine ⟨_, rfl, ?_⟩) | ((with_reducible refine gate_callee (f := 31) rfl ?_); refine goesL_ (some 28) rfl rfl Try.func31 (by kernel_rfl) rfl #[.string t178, .slice A2 l2.length c2] rfl (by (try simp only [List.map_toArray, List.map_cons, List.map_nil]); first | done | rfl | (simp only [List.length_drop, List.length_take]; rfl)) ?_; (with_reducible refine (atom_Join.calls t178 _ _ l2 t180 _ ?side1 ?side2 A12.out).mono ?_); (case side1 => repeat (first | exact (Kd.C_below HR2.out (by repeat (first | (with_reducible first | exact HB.out | apply below_alloc | apply pw_below_drewN | apply below_drew1) | exact HB.out))) | (with_reducible refine Kd.C_alloc ?_ _) | (with_reducible refine Kd.C_drewN ?_ _) | (with_reducible refine Kd.C_drew ?_))); (case side2 => exact HC2.out); rintro e w22 ⟨rfl, hb⟩; refine ⟨_, rfl, ?_⟩; have n0_ := Aside0.mk (below_step (by repeat (first | (with_reducible first | exact HB.out | apply below_alloc | apply pw_below_drewN | apply below_drew1) | exact HB.out)) hb); clear HB; have HB := n0_; clear n0_; (try clear hb); (try clear hb2); (try clear hk); (try clear hi)) | ((with_reducible refine gate_callee (f := 24) rfl ?_); refine goesL_ (some 29) rfl rfl Try.func24 (by kernel_rfl) rfl #[.string t180] rfl (by (try simp only [List.map_toArray, List.map_cons, List.map_nil]); first | done | rfl | (simp only [List.length_drop, List.length_take]; rfl)) ?_; (with_reducible refine (atom_Split.calls kj4 t180 t181 t182 true _ A13.out).mono ?_); rintro e w' ⟨rfl, ⟨nd, rfl⟩⟩; refine ⟨_, rfl, ?_⟩) | (go_at_call 34; (with_reducible refine (entailref1_Glue.calls kj4 _ _ l2 (⟨#[47]⟩ : ByteArray) t184 _ ?side1 ?side2 A16.out).mono ?_); (case side1 => repeat (first | exact (Kd.C_below HR2.out (by repeat (first | (with_reducible first | exact HB.out | apply below_alloc | apply pw_below_drewN | apply below_drew1) | exact HB.out))) | (with_reducible refine Kd.C_alloc ?_ _) | (with_reducible refine Kd.C_drewN ?_ _) | (with_reducible refine Kd.C_drew ?_))); (case side2 => exact HC2.out); rintro e w' ⟨rfl, ⟨nd, rfl⟩⟩) | (go_at_call 27; (with_reducible refine (atom_Name.calls kj4 t178 true _ A19.out).mono ?_); rintro e w' ⟨rfl, ⟨nd, rfl⟩⟩) | (go_at_call 25; (with_reducible refine (entaillaw1_awake.calls kj4  t186 _ A21.out).mono ?_); rintro e w23 ⟨rfl, hb⟩; have n0_ := Aside0.mk (below_step (by repeat (first | (with_reducible first | exact HB.out | apply below_alloc | apply pw_below_drewN | apply below_drew1) | exact HB.out)) hb); clear HB; have HB := n0_; clear n0_; (try clear hb); (try clear hb2); (try clear hk); (try clear hi)))
                  go_ret
                  exact ⟨by first | rfl | (simp [errW_none, errW_some] <;> rfl) | (simp [*, errW_none, errW_some] <;> rfl), by repeat (first | (with_reducible first | exact HB.out | apply below_alloc | apply pw_below_drewN | apply below_drew1) | exact HB.out)⟩
                · replace c20 := Bool.eq_false_iff.mpr c20
                  subst c20
                  have H1 : (none) = some r := by rw [if_neg (show ¬ (false = true) by decide)] at H; exact H
                  clear H
                  have H := H1
                  clear H1
                  exact absurd H (by simp)
              · rw [if_neg c18] at H
                have c18b0 : (t178.toList == t179.toList) = false := beq_eq_false_iff_ne.mpr c18
                have c18b1 : (t178.toList != t179.toList) = true := bne_iff_ne.mpr c18
                replace H := Option.bind_eq_some_iff.mp H
                obtain ⟨t187, A240, H⟩ := H
                replace H : ((atom_Join.f t179 l3).bind fun t188 => (if t187.toList = t188.toList then (none) else ((atom_Name.f kj4 t178).bind fun t189 => (if t189 = true then ((entaillaw1_awake.f kj4).bind fun t190 => (some t190)) else (none))))) = some r := H
                have A24 := Aside0.mk A240
                clear A240
                replace H := Option.bind_eq_some_iff.mp H
                obtain ⟨t188, A250, H⟩ := H
                replace H : (if t187.toList = t188.toList then (none) else ((atom_Name.f kj4 t178).bind fun t189 => (if t189 = true then ((entaillaw1_awake.f kj4).bind fun t190 => (some t190)) else (none)))) = some r := H
                have A25 := Aside0.mk A250
                clear A250
                by_cases c26 : t187.toList = t188.toList
                · rw [if_pos c26] at H
                  exact absurd H (by simp)
                · rw [if_neg c26] at H
                  have c26b0 : (t187.toList == t188.toList) = false := beq_eq_false_iff_ne.mpr c26
                  have c26b1 : (t187.toList != t188.toList) = true := bne_iff_ne.mpr c26
                  replace H := Option.bind_eq_some_iff.mp H
                  obtain ⟨t189, A270, H⟩ := H
                  replace H : (if t189 = true then ((entaillaw1_awake.f kj4).bind fun t190 => (some t190)) else (none)) = some r := H
                  have A27 := Aside0.mk A270
                  clear A270
                  by_cases c28 : t189 = true
                  · subst c28
                    have H1 : ((entaillaw1_awake.f kj4).bind fun t190 => (some t190)) = some r := by rw [if_pos rfl] at H; exact H
                    clear H
                    have H := H1
                    clear H1
                    replace H := Option.bind_eq_some_iff.mp H
                    obtain ⟨t190, A290, H⟩ := H
                    replace H : (some t190) = some r := H
                    have A29 := Aside0.mk A290
                    clear A290
                    obtain rfl := Option.some.inj H
                    go_wp2_with (first | ((with_reducible refine gate_callee (f := 33) rfl ?_); refine goesL_ (some 22) rfl rfl Try.func33 (by kernel_rfl) rfl #[.string a0] rfl (by (try simp only [List.map_toArray, List.map_cons, List.map_nil]); first | done | rfl | (simp only [List.length_drop, List.length_take]; rfl)) ?_; (with_reducible refine (entaillaw1_Tame.calls kj4 a0 t178 _ A10.out).mono ?_); rintro e w' ⟨rfl, ⟨nd, rfl⟩⟩; refine ⟨_, rfl, ?_⟩) | ((with_reducible refine gate_callee (f := 33) rfl ?_); refine goesL_ (some 24) rfl rfl Try.func33 (by kernel_rfl) rfl #[.string a1] rfl (by (try simp only [List.map_toArray, List.map_cons, List.map_nil]); first | done | rfl | (simp only [List.length_drop, List.length_take]; rfl)) ?_; (with_reducible refine (entaillaw1_Tame.calls kj4 a1 t179 _ A11.out).mono ?_); rintro e w' ⟨rfl, ⟨nd, rfl⟩⟩; refine ⟨_, rfl, ?_⟩) | ((with_reducible refine gate_callee (f := 31) rfl ?_); refine goesL_ (some 28) rfl rfl Try.func31 (by kernel_rfl) rfl #[.string t178, .slice A2 l2.length c2] rfl (by (try simp only [List.map_toArray, List.map_cons, List.map_nil]); first | done | rfl | (simp only [List.length_drop, List.length_take]; rfl)) ?_; (with_reducible refine (atom_Join.calls t178 _ _ l2 t180 _ ?side1 ?side2 A12.out).mono ?_); (case side1 => repeat (first | exact (Kd.C_below HR2.out (by repeat (first | (with_reducible first | exact HB.out | apply below_alloc | apply pw_below_drewN | apply below_drew1) | exact HB.out))) | (with_reducible refine Kd.C_alloc ?_ _) | (with_reducible refine Kd.C_drewN ?_ _) | (with_reducible refine Kd.C_drew ?_))); (case side2 => exact HC2.out); rintro e w30 ⟨rfl, hb⟩; refine ⟨_, rfl, ?_⟩; have n0_ := Aside0.mk (below_step (by repeat (first | (with_reducible first | exact HB.out | apply below_alloc | apply pw_below_drewN | apply below_drew1) | exact HB.out)) hb); clear HB; have HB := n0_; clear n0_; (try clear hb); (try clear hb2); (try clear hk); (try clear hi)) | ((with_reducible refine gate_callee (f := 24) rfl ?_); refine goesL_ (some 29) rfl rfl Try.func24 (by kernel_rfl) rfl #[.string t180] rfl (by (try simp only [List.map_toArray, List.map_cons, List.map_nil]); first | done | rfl | (simp only [List.length_drop, List.length_take]; rfl)) ?_; (with_reducible refine (atom_Split.calls kj4 t180 t181 t182 true _ A13.out).mono ?_); rintro e w' ⟨rfl, ⟨nd, rfl⟩⟩; refine ⟨_, rfl, ?_⟩) | (go_at_call 34; (with_reducible refine (entailref1_Glue.calls kj4 _ _ l2 (⟨#[47]⟩ : ByteArray) t184 _ ?side1 ?side2 A16.out).mono ?_); (case side1 => repeat (first | exact (Kd.C_below HR2.out (by repeat (first | (with_reducible first | exact HB.out | apply below_alloc | apply pw_below_drewN | apply below_drew1) | exact HB.out))) | (with_reducible refine Kd.C_alloc ?_ _) | (with_reducible refine Kd.C_drewN ?_ _) | (with_reducible refine Kd.C_drew ?_))); (case side2 => exact HC2.out); rintro e w' ⟨rfl, ⟨nd, rfl⟩⟩) | (go_at_call 31; (with_reducible refine (atom_Join.calls t178 _ _ l2 t187 _ ?side1 ?side2 A24.out).mono ?_); (case side1 => repeat (first | exact (Kd.C_below HR2.out (by repeat (first | (with_reducible first | exact HB.out | apply below_alloc | apply pw_below_drewN | apply below_drew1) | exact HB.out))) | (with_reducible refine Kd.C_alloc ?_ _) | (with_reducible refine Kd.C_drewN ?_ _) | (with_reducible refine Kd.C_drew ?_))); (case side2 => exact HC2.out); rintro e w31 ⟨rfl, hb⟩; have n0_ := Aside0.mk (below_step (by repeat (first | (with_reducible first | exact HB.out | apply below_alloc | apply pw_below_drewN | apply below_drew1) | exact HB.out)) hb); clear HB; have HB := n0_; clear n0_; (try clear hb); (try clear hb2); (try clear hk); (try clear hi)) | (go_at_call 31; (with_reducible refine (atom_Join.calls t179 _ _ l3 t188 _ ?side1 ?side2 A25.out).mono ?_); (case side1 => repeat (first | exact (Kd.C_below HR3.out HB.out) | (with_reducible refine Kd.C_alloc ?_ _) | (with_reducible refine Kd.C_drewN ?_ _) | (with_reducible refine Kd.C_drew ?_))); (case side2 => exact HC3.out); rintro e w32 ⟨rfl, hb⟩; have n0_ := Aside0.mk (below_step (by repeat (first | (with_reducible first | exact HB.out | apply below_alloc | apply pw_below_drewN | apply below_drew1) | exact HB.out)) hb); clear HB; have HB := n0_; clear n0_; (try clear hb); (try clear hb2); (try clear hk); (try clear hi)) | (go_at_call 27; (with_reducible refine (atom_Name.calls kj4 t178 true _ A27.out).mono ?_); rintro e w' ⟨rfl, ⟨nd, rfl⟩⟩) | (go_at_call 25; (with_reducible refine (entaillaw1_awake.calls kj4  t190 _ A29.out).mono ?_); rintro e w33 ⟨rfl, hb⟩; have n0_ := Aside0.mk (below_step (by repeat (first | (with_reducible first | exact HB.out | apply below_alloc | apply pw_below_drewN | apply below_drew1) | exact HB.out)) hb); clear HB; have HB := n0_; clear n0_; (try clear hb); (try clear hb2); (try clear hk); (try clear hi)))
                    go_ret
                    exact ⟨by first | rfl | (simp [errW_none, errW_some] <;> rfl) | (simp [*, errW_none, errW_some] <;> rfl), by repeat (first | (with_reducible first | exact HB.out | apply below_alloc | apply pw_below_drewN | apply below_drew1) | exact HB.out)⟩
                  · replace c28 := Bool.eq_false_iff.mpr c28
                    subst c28
                    have H1 : (none) = some r := by rw [if_neg (show ¬ (false = true) by decide)] at H; exact H
                    clear H
                    have H := H1
                    clear H1
                    exact absurd H (by simp)
            · rw [if_neg c17] at H
              exact absurd H (by simp)
          · rw [if_neg c15] at H
            exact absurd H (by simp)
        · replace c14 := Bool.eq_false_iff.mpr c14
          subst c14
          have H1 : (none) = some r := by rw [if_neg (show ¬ (false = true) by decide)] at H; exact H
          clear H
          have H := H1
          clear H1
          exact absurd H (by simp)

end Go.Proofs.Ytjmlloiolppoiaa.P
