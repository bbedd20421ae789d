/- An id is split at its first bar alone; without one, or with no name ahead of it, it is not. -/
import Derived.Test.YtjmlloiolppoiaaPx3
import Derived.Test.YtjmlloiolppoiaaAtom
namespace Go.Proofs.Ytjmlloiolppoiaa.PureSplits
open Go.RowKit Go.Proofs.Ytjmlloiolppoiaa.P Go.Proofs.YtjmlloiolppoiaaW.PrintWords Go.Proofs.YtjmlloiolppoiaaW.PrintLast Go.Proofs.Ytjmlloiolppoiaa.Base Go.Proofs.Ytjmlloiolppoiaa.Atom

theorem ahead_app (d : UInt8) : ∀ (w r : List UInt8), (∀ c ∈ w, c ≠ d) → cutA d (w ++ d :: r) = w
  | [], r, _ => by unfold cutA; rw [List.nil_append, List.takeWhile_cons]; simp
  | c :: w, r, h => by
    have hc : c ≠ d := h c (List.mem_cons_self ..)
    have ih := ahead_app d w r fun e he => h e (List.mem_cons_of_mem _ he)
    unfold cutA at ih ⊢
    rw [List.cons_append, List.takeWhile_cons, if_pos (by simp [hc]), ih]
theorem behind_app (d : UInt8) (w r : List UInt8) (h : ∀ c ∈ w, c ≠ d) : cutB d (w ++ d :: r) = r := by
  unfold cutB
  rw [ahead_app d w r h, ← List.drop_drop, List.drop_left]; rfl
theorem name_bar {l : List UInt8} (h : nameL l = true) : ∀ c ∈ l, c ≠ 124 := by
  intro c hc e
  subst e
  unfold nameL at h
  rw [Bool.and_eq_true, Bool.and_eq_true] at h
  have := (List.all_eq_true.1 h.2) 124 hc
  exact absurd this (by decide)

/-- n bars. -/
def bars (n : Nat) : List UInt8 := List.replicate n 124
theorem bars_succ (n : Nat) : bars n ++ [124] = bars (n + 1) := by
  unfold bars; rw [← List.replicate_succ']

theorem last (b : Int) (x : ByteArray) (hx : nameL (A x) = true) (hx3 : x.size ≤ 3) (m : Nat) (hm : m ≤ 3) (u : ByteArray) (hu : A u = bars m) (x2 : Int) (hx2 : x2 % 4 = (m : Int)) :
    Ev (fun k => entaillaw1_AtomSplits.l0 k b x2 x u (m : Int)) true := by
  obtain ⟨y, hy, hyn, hy3, _⟩ := nm_eq b
  have hus : u.size = m := by rw [← A_len, hu]; simp [bars]
  have bx := name_bar hx
  have by_ := name_bar hyn
  -- the four texts
  have s1 : A (((x ++ (⟨#[124]⟩ : ByteArray)) ++ y) ++ u) = A x ++ 124 :: (A y ++ bars m) := by
    rw [A_append, A_append, A_append, hu]; show ((A x ++ [124]) ++ A y) ++ bars m = _; simp
  have s2 : A ((((⟨#[45]⟩ : ByteArray) ++ x) ++ (⟨#[124]⟩ : ByteArray)) ++ y) = (45 :: A x) ++ 124 :: A y := by
    rw [A_append, A_append, A_append]; show (([45] ++ A x) ++ [124]) ++ A y = _; simp
  have s3 : A (x ++ y) = A x ++ A y := A_append _ _
  have s4 : A ((⟨#[124]⟩ : ByteArray) ++ x) = [] ++ 124 :: A x := by rw [A_append]; rfl
  have z1 : (((x ++ (⟨#[124]⟩ : ByteArray)) ++ y) ++ u).size ≤ 100 := by rw [← A_len, s1]; simp [A_len, bars]; omega
  have z2 : ((((⟨#[45]⟩ : ByteArray) ++ x) ++ (⟨#[124]⟩ : ByteArray)) ++ y).size ≤ 100 := by rw [← A_len, s2]; simp [A_len]; omega
  have z3 : (x ++ y).size ≤ 100 := by rw [ByteArray.size_append]; omega
  have z4 : ((⟨#[124]⟩ : ByteArray) ++ x).size ≤ 100 := by rw [← A_len, s4]; simp [A_len]; omega
  have e1 := split_ev _ (Nat.le_trans z1 (by decide))
  have e2 := split_ev _ (Nat.le_trans z2 (by decide))
  have e3 := split_ev _ (Nat.le_trans z3 (by decide))
  have e4 := split_ev _ (Nat.le_trans z4 (by decide))
  have r1 : splitL (A x ++ 124 :: (A y ++ bars m)) = (A x, A y ++ bars m, true) := by
    unfold splitL; rw [ahead_app 124 _ _ bx, behind_app 124 _ _ bx, if_pos ⟨by simp, hx⟩]
  have r2 : splitL ((45 :: A x) ++ 124 :: A y) = ([], [], false) := by
    have h45 : ∀ c ∈ 45 :: A x, c ≠ 124 := by
      intro c hc
      rcases List.mem_cons.1 hc with rfl | hc
      · decide
      · exact bx c hc
    unfold splitL; rw [ahead_app 124 _ _ h45, if_neg]
    rintro ⟨_, h⟩
    have e : nameL (45 :: A x) = ((decide ((45 :: A x).length ≤ 30) && false) && (45 :: A x).all plainB) := rfl
    rw [e, Bool.and_false, Bool.false_and] at h
    cases h
  have r3 : splitL (A x ++ A y) = ([], [], false) := by
    unfold splitL; rw [if_neg]
    rintro ⟨h, _⟩
    rcases List.mem_append.1 h with h | h
    · exact bx _ h rfl
    · exact by_ _ h rfl
  have r4 : splitL ([] ++ 124 :: A x) = ([], [], false) := by
    unfold splitL; rw [ahead_app 124 [] _ (by simp), if_neg]
    rintro ⟨_, h⟩
    exact absurd h (by decide)
  rw [s1, r1] at e1; rw [s2, r2] at e2; rw [s3, r3] at e3; rw [s4, r4] at e4
  obtain ⟨K1, k1⟩ := e1; obtain ⟨K2, k2⟩ := e2; obtain ⟨K3, k3⟩ := e3; obtain ⟨K4, k4⟩ := e4; obtain ⟨K5, k5⟩ := awake_ev
  refine ⟨K1 + K2 + K3 + K4 + K5 + 1, fun k hk => ?_⟩
  obtain ⟨k, rfl⟩ : ∃ i, k = i + 1 := ⟨k - 1, by omega⟩
  have q1 : atom_Split.f k (((x ++ (⟨#[124]⟩ : ByteArray)) ++ y) ++ u) = _ := k1 k (by omega)
  have q2 : atom_Split.f k ((((⟨#[45]⟩ : ByteArray) ++ x) ++ (⟨#[124]⟩ : ByteArray)) ++ y) = _ := k2 k (by omega)
  have q3 : atom_Split.f k (x ++ y) = _ := k3 k (by omega)
  have q4 : atom_Split.f k ((⟨#[124]⟩ : ByteArray) ++ x) = _ := k4 k (by omega)
  have q5 : entaillaw1_awake.f k = some true := k5 k (by omega)
  have c1 : (⟨#[124]⟩ : ByteArray).size = 1 := rfl
  have c2 : (⟨#[45]⟩ : ByteArray).size = 1 := rfl
  simp only [entaillaw1_AtomSplits.l0]
  rw [Num.and3, if_neg (by omega), if_pos (by omega), hy]
  simp only [Option.bind_some]
  rw [if_pos (by rw [ByteArray.size_append]; omega), if_pos (by simp only [ByteArray.size_append]; omega), q1]
  simp only [Option.bind_some]
  rw [if_pos (by omega), if_pos (by rw [ByteArray.size_append]; omega), if_pos (by simp only [ByteArray.size_append]; omega), q2]
  simp only [Option.bind_some]
  rw [if_pos (by omega), q3]
  simp only [Option.bind_some]
  rw [q4]
  simp only [Option.bind_some, if_true]
  rw [if_pos (show (toB (A x)).toList = x.toList by rw [toB_A]), if_pos (by omega), if_pos (show (toB (A y ++ bars m)).toList = (y ++ u).toList by rw [A_toList, A_toList, A_append, hu]; rfl)]
  simp only [Bool.false_eq_true, if_false]
  rw [q5]
  rfl

theorem l0_ev (b x2 : Int) (x : ByteArray) (hx : nameL (A x) = true) (hx3 : x.size ≤ 3) (m : Nat) (hm : m ≤ 3) (hx2 : x2 % 4 = (m : Int)) : ∀ (d j : Nat) (u : ByteArray), m - j = d → j ≤ m → A u = bars j →
    Ev (fun k => entaillaw1_AtomSplits.l0 k b x2 x u (j : Int)) true
  | 0, j, u, hd, hj, hu => by
    have : j = m := by omega
    subst this
    exact last b x hx hx3 j hm u hu x2 hx2
  | d + 1, j, u, hd, hj, hu => by
    have hus : u.size = j := by rw [← A_len, hu]; simp [bars]
    have ih := l0_ev b x2 x hx hx3 m hm hx2 d (j + 1) (u ++ ⟨#[124]⟩) (by omega) (by omega) (by rw [A_append, hu, ← bars_succ]; rfl)
    refine Ev.step (f := fun k => entaillaw1_AtomSplits.l0 k b x2 x (u ++ ⟨#[124]⟩) ((j + 1 : Nat) : Int)) (fun k => ?_) ih
    simp only [entaillaw1_AtomSplits.l0]
    rw [Num.and3, if_pos (by omega), if_pos (by omega), wrap_id (by omega) (by omega)]
    rfl

theorem AtomSplits : entaillaw1_AtomSplits.Pure := by
  intro a0 a1 a2 _ _ _
  obtain ⟨x, hx, hxn, hx3, _⟩ := nm_eq a0
  obtain ⟨m, hm⟩ : ∃ m : Nat, (m : Int) = a2 % 4 := ⟨(a2 % 4).toNat, by omega⟩
  refine Ev.rounds (g := fun k => entaillaw1_AtomSplits.f k a0 a1 a2) ?_
  refine Ev.congr (f := fun k => entaillaw1_AtomSplits.l0 k a1 a2 x ⟨#[]⟩ ((0 : Nat) : Int)) (fun k => ?_) (l0_ev a1 a2 x hxn hx3 m (by omega) hm.symm m 0 ⟨#[]⟩ (by omega) (by omega) rfl)
  unfold entaillaw1_AtomSplits.f
  rw [hx]; rfl

end Go.Proofs.Ytjmlloiolppoiaa.PureSplits
namespace Go.Proofs.Ytjmlloiolppoiaa.Pure
theorem AtomSplits : P.entaillaw1_AtomSplits.Pure := PureSplits.AtomSplits
end Go.Proofs.Ytjmlloiolppoiaa.Pure
