/- The order of tuples: what Compare and Less say, and that it is an order. -/
import Derived.Test.YtjmlloiolppoiaaBase
import Derived.Test.YtjmlloiolppoiaaPx14
import Derived.Test.YtjmlloiolppoiaaPx13
namespace Go.Proofs.Ytjmlloiolppoiaa.TuplLess
open Go.RowKit Go.Proofs.Ytjmlloiolppoiaa.P Go.Proofs.YtjmlloiolppoiaaW.PrintWords Go.Proofs.YtjmlloiolppoiaaW.PrintLast Go.Proofs.Ytjmlloiolppoiaa.Base

theorem cb_self : ∀ x : List UInt8, Lib.compareBytes x x = 0
  | [] => rfl
  | a :: x => by
    unfold Lib.compareBytes
    rw [if_neg (by simp), if_neg (by simp)]; exact cb_self x
theorem cb_swap : ∀ x y : List UInt8, Lib.compareBytes y x = - Lib.compareBytes x y
  | [], [] => rfl
  | [], _ :: _ => rfl
  | _ :: _, [] => rfl
  | a :: x, b :: y => by
    unfold Lib.compareBytes
    by_cases h : a < b
    · have : ¬ b < a := by rw [UInt8.lt_iff_toNat_lt] at h ⊢; omega
      rw [if_pos h, if_neg this, if_pos h]; rfl
    · by_cases g : b < a
      · rw [if_pos g, if_neg h, if_pos g]
      · rw [if_neg h, if_neg g, if_neg g, if_neg h]; exact cb_swap x y
theorem cb_zero : ∀ x y : List UInt8, Lib.compareBytes x y = 0 → x = y
  | [], [], _ => rfl
  | [], _ :: _, h => absurd h (by simp [Lib.compareBytes])
  | _ :: _, [], h => absurd h (by simp [Lib.compareBytes])
  | a :: x, b :: y, h => by
    unfold Lib.compareBytes at h
    by_cases h1 : a < b
    · rw [if_pos h1] at h; exact absurd h (by decide)
    · by_cases g : b < a
      · rw [if_neg h1, if_pos g] at h; exact absurd h (by decide)
      · rw [if_neg h1, if_neg g] at h
        have e : a = b := by
          rw [UInt8.lt_iff_toNat_lt] at h1 g
          exact UInt8.toNat_inj.1 (by omega)
        rw [e, cb_zero x y h]
theorem cb_trans : ∀ x y z : List UInt8, Lib.compareBytes x y < 0 → Lib.compareBytes y z < 0 → Lib.compareBytes x z < 0
  | [], [], _, h, _ => absurd h (by decide)
  | [], _ :: _, [], _, h => absurd h (by simp [Lib.compareBytes])
  | [], _ :: _, _ :: _, _, _ => by simp [Lib.compareBytes]
  | _ :: _, [], _, h, _ => absurd h (by simp [Lib.compareBytes])
  | _ :: _, _ :: _, [], _, h => absurd h (by simp [Lib.compareBytes])
  | a :: x, b :: y, c :: z, h1, h2 => by
    unfold Lib.compareBytes at h1 h2 ⊢
    by_cases p : a < b
    · by_cases q : b < c
      · have : a < c := by rw [UInt8.lt_iff_toNat_lt] at *; omega
        rw [if_pos this]; decide
      · rw [if_neg q] at h2
        by_cases r : c < b
        · rw [if_pos r] at h2; exact absurd h2 (by decide)
        · have : a < c := by rw [UInt8.lt_iff_toNat_lt] at *; omega
          rw [if_pos this]; decide
    · rw [if_neg p] at h1
      by_cases r : b < a
      · rw [if_pos r] at h1; exact absurd h1 (by decide)
      · rw [if_neg r] at h1
        have e : a = b := by
          rw [UInt8.lt_iff_toNat_lt] at p r
          exact UInt8.toNat_inj.1 (by omega)
        subst e
        by_cases q : a < c
        · rw [if_pos q]; decide
        · rw [if_neg q] at h2 ⊢
          by_cases t : c < a
          · rw [if_pos t] at h2; exact absurd h2 (by decide)
          · rw [if_neg t] at h2 ⊢; exact cb_trans x y z h1 h2

/-- How two rows of texts stand to each other: by the first that is not the same. -/
def cmps : List (List UInt8) → List (List UInt8) → Int
  | x :: xs, y :: ys => if Lib.compareBytes x y = 0 then cmps xs ys else Lib.compareBytes x y
  | _, _ => 0
theorem cmps_self : ∀ X, cmps X X = 0
  | [] => rfl
  | x :: X => by unfold cmps; rw [if_pos (cb_self x)]; exact cmps_self X
theorem cmps_swap : ∀ X Y, cmps Y X = - cmps X Y
  | [], [] => rfl
  | [], _ :: _ => rfl
  | _ :: _, [] => rfl
  | x :: X, y :: Y => by
    unfold cmps
    have := cb_swap x y
    by_cases h : Lib.compareBytes x y = 0
    · rw [if_pos h, if_pos (by omega)]; exact cmps_swap X Y
    · rw [if_neg h, if_neg (by omega)]; exact this
theorem cmps_zero : ∀ X Y, X.length = Y.length → cmps X Y = 0 → X = Y
  | [], [], _, _ => rfl
  | [], _ :: _, h, _ => by simp at h
  | _ :: _, [], h, _ => by simp at h
  | x :: X, y :: Y, hl, h => by
    unfold cmps at h
    by_cases g : Lib.compareBytes x y = 0
    · rw [if_pos g] at h
      rw [cb_zero x y g, cmps_zero X Y (by simpa using hl) h]
    · rw [if_neg g] at h; exact absurd h g
theorem cmps_trans : ∀ X Y Z, cmps X Y < 0 → cmps Y Z < 0 → cmps X Z < 0
  | [], _, _, h, _ => absurd h (by simp [cmps])
  | _ :: _, [], _, h, _ => absurd h (by simp [cmps])
  | _ :: _, _ :: _, [], _, h => absurd h (by simp [cmps])
  | x :: X, y :: Y, z :: Z, h1, h2 => by
    unfold cmps at h1 h2 ⊢
    by_cases p : Lib.compareBytes x y = 0
    · rw [if_pos p] at h1
      obtain rfl := cb_zero x y p
      by_cases q : Lib.compareBytes x z = 0
      · rw [if_pos q] at h2 ⊢; exact cmps_trans X Y Z h1 h2
      · rw [if_neg q] at h2 ⊢; exact h2
    · rw [if_neg p] at h1
      by_cases q : Lib.compareBytes y z = 0
      · obtain rfl := cb_zero y z q
        rw [if_neg p]; exact h1
      · rw [if_neg q] at h2
        have t := cb_trans x y z h1 h2
        rw [if_neg (by omega)]; exact t

def ors : List Int → Int
  | [] => 0
  | x :: r => if x = 0 then ors r else x
theorem or_l0 (l : List Int) (hl : l.length ≤ 1000000) : ∀ (r : List Int) (n : Nat), l.drop n = r → n ≤ l.length → Ev (fun k => cmp_Or_int.l0 k 0 l (l.length : Int) (n : Int)) (ors r)
  | [], n, h, hn => by
    have : l.length ≤ n := List.drop_eq_nil_iff.1 h
    refine Ev.step (f := fun _ => some 0) (fun k => ?_) (Ev.now _)
    simp only [cmp_Or_int.l0]; rw [if_neg (by omega)]
  | x :: r, n, h, hn => by
    have hlt : n < l.length := by
      have := congrArg List.length h
      rw [List.length_drop, List.length_cons] at this; omega
    have hx : rd l (n : Int) = x := by
      have h0 : l[n]? = some x := by rw [← List.head?_drop, h]; rfl
      unfold rd
      simp [h0]
    have ih := or_l0 l hl r (n + 1) (drop_succ h) (by omega)
    by_cases g : x = 0
    · refine Ev.step (f := fun k => cmp_Or_int.l0 k 0 l (l.length : Int) ((n + 1 : Nat) : Int)) (fun k => ?_) ?_
      · simp only [cmp_Or_int.l0]
        rw [if_pos (by omega), if_pos (by omega), if_pos (by omega), hx, if_pos g, wrap_id (by omega) (by omega)]; rfl
      · unfold ors; rw [if_pos g]; exact ih
    · refine Ev.step (f := fun _ => some x) (fun k => ?_) ?_
      · simp only [cmp_Or_int.l0]
        rw [if_pos (by omega), if_pos (by omega), if_pos (by omega), hx, if_neg g]
      · unfold ors; rw [if_neg g]; exact Ev.now _

theorem ors_cmps (a0 a1 a2 a3 a4 a5 b0 b1 b2 b3 b4 b5 : List UInt8) :
    ors [Lib.compareBytes a0 b0, Lib.compareBytes a1 b1, Lib.compareBytes a2 b2, Lib.compareBytes a3 b3, Lib.compareBytes a4 b4, Lib.compareBytes a5 b5] = cmps [a0, a1, a2, a3, a4, a5] [b0, b1, b2, b3, b4, b5] := by
  simp only [ors, cmps]

theorem scmp (a b : ByteArray) : strings_Compare.f a b = some (Lib.compareBytes (A a) (A b)) := rfl

theorem less_ev (a0 a1 a2 a3 a4 a5 b0 b1 b2 b3 b4 b5 : ByteArray) :
    Ev (fun k => tupl_Less.f k a0 a1 a2 a3 a4 a5 b0 b1 b2 b3 b4 b5) (decide (cmps [A a0, A a1, A a2, A a3, A a4, A a5] [A b0, A b1, A b2, A b3, A b4, A b5] < 0)) := by
  obtain ⟨K, h⟩ := or_l0 [Lib.compareBytes (A a0) (A b0), Lib.compareBytes (A a1) (A b1), Lib.compareBytes (A a2) (A b2), Lib.compareBytes (A a3) (A b3), Lib.compareBytes (A a4) (A b4), Lib.compareBytes (A a5) (A b5)] (by simp) _ 0 rfl (Nat.zero_le _)
  rw [List.drop_zero, ors_cmps] at h
  refine ⟨K, fun k hk => ?_⟩
  have q : cmp_Or_int.l0 k 0 [Lib.compareBytes (A a0) (A b0), Lib.compareBytes (A a1) (A b1), Lib.compareBytes (A a2) (A b2), Lib.compareBytes (A a3) (A b3), Lib.compareBytes (A a4) (A b4), Lib.compareBytes (A a5) (A b5)] ((6 : Nat) : Int) ((0 : Nat) : Int) = _ := h k hk
  show tupl_Less.f k a0 a1 a2 a3 a4 a5 b0 b1 b2 b3 b4 b5 = _
  unfold tupl_Less.f tupl_Compare.f
  simp only [scmp, Option.bind_some]
  change ((Option.bind (cmp_Or_int.l0 k 0 _ ((6 : Nat) : Int) ((0 : Nat) : Int)) _).bind _) = _
  rw [q]; rfl
end Go.Proofs.Ytjmlloiolppoiaa.TuplLess
