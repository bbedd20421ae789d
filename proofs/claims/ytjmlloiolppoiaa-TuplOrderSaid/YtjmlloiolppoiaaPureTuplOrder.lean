/- Of two tuples that are not the same just one is below; what is below what is below is below. -/
import Derived.Test.YtjmlloiolppoiaaTuplTame
import Derived.Test.YtjmlloiolppoiaaTuplLess
import Derived.Test.YtjmlloiolppoiaaPx24
namespace Go.Proofs.Ytjmlloiolppoiaa.PureTuplOrder
open Go.RowKit Go.Proofs.Ytjmlloiolppoiaa.Num Go.Proofs.Ytjmlloiolppoiaa.P Go.Proofs.YtjmlloiolppoiaaW.PrintWords Go.Proofs.YtjmlloiolppoiaaW.PrintLast Go.Proofs.Ytjmlloiolppoiaa.Base Go.Proofs.Ytjmlloiolppoiaa.Atom Go.Proofs.Ytjmlloiolppoiaa.Tupl Go.Proofs.Ytjmlloiolppoiaa.TuplLess

theorem step (n m q i : Int) (hi : i < 2) (a0 a1 a2 a3 a4 a5 b0 b1 b2 b3 b4 b5 c0 c1 c2 c3 c4 c5 : ByteArray) :
    ∃ K, ∀ k, K ≤ k → entaillaw2_TuplOrder.l0 (k + 1) n m q i a0 a1 a2 a3 a4 a5 b0 b1 b2 b3 b4 b5 c0 c1 c2 c3 c4 c5 = entaillaw2_TuplOrder.j1 k n m q i false := by
  obtain ⟨K1, h1⟩ := less_ev a0 a1 a2 a3 a4 a5 b0 b1 b2 b3 b4 b5
  obtain ⟨K2, h2⟩ := less_ev b0 b1 b2 b3 b4 b5 c0 c1 c2 c3 c4 c5
  obtain ⟨K3, h3⟩ := less_ev a0 a1 a2 a3 a4 a5 c0 c1 c2 c3 c4 c5
  obtain ⟨K4, h4⟩ := less_ev a0 a1 a2 a3 a4 a5 a0 a1 a2 a3 a4 a5
  obtain ⟨K5, h5⟩ := less_ev b0 b1 b2 b3 b4 b5 a0 a1 a2 a3 a4 a5
  have f1 := cmps_trans [A a0, A a1, A a2, A a3, A a4, A a5] [A b0, A b1, A b2, A b3, A b4, A b5] [A c0, A c1, A c2, A c3, A c4, A c5]
  have f2 := cmps_self [A a0, A a1, A a2, A a3, A a4, A a5]
  have f3 := cmps_swap [A a0, A a1, A a2, A a3, A a4, A a5] [A b0, A b1, A b2, A b3, A b4, A b5]
  have f4 := cmps_zero [A a0, A a1, A a2, A a3, A a4, A a5] [A b0, A b1, A b2, A b3, A b4, A b5] rfl
  rw [f2] at h4
  rw [f3] at h5
  generalize cmps [A a0, A a1, A a2, A a3, A a4, A a5] [A b0, A b1, A b2, A b3, A b4, A b5] = u at *
  generalize cmps [A b0, A b1, A b2, A b3, A b4, A b5] [A c0, A c1, A c2, A c3, A c4, A c5] = v at *
  generalize cmps [A a0, A a1, A a2, A a3, A a4, A a5] [A c0, A c1, A c2, A c3, A c4, A c5] = x at *
  refine ⟨K1 + K2 + K3 + K4 + K5, fun k hk => ?_⟩
  have q1 : tupl_Less.f k a0 a1 a2 a3 a4 a5 b0 b1 b2 b3 b4 b5 = some (decide (u < 0)) := h1 k (by omega)
  have q2 : tupl_Less.f k b0 b1 b2 b3 b4 b5 c0 c1 c2 c3 c4 c5 = some (decide (v < 0)) := h2 k (by omega)
  have q3 : tupl_Less.f k a0 a1 a2 a3 a4 a5 c0 c1 c2 c3 c4 c5 = some (decide (x < 0)) := h3 k (by omega)
  have q4 : tupl_Less.f k a0 a1 a2 a3 a4 a5 a0 a1 a2 a3 a4 a5 = some false := h4 k (by omega)
  have q5 : tupl_Less.f k b0 b1 b2 b3 b4 b5 a0 a1 a2 a3 a4 a5 = some (decide (-u < 0)) := h5 k (by omega)
  simp only [entaillaw2_TuplOrder.l0]
  rw [if_pos hi]
  simp only [q1, q2, q3, q4, q5, Option.bind_some, Bool.false_eq_true, if_false, decide_eq_true_eq, ite_self]
  by_cases g1 : u < 0
  · have g5 : ¬ (-u < 0) := by omega
    simp only [if_pos g1, if_neg g5]
    by_cases g2 : v < 0
    · simp only [if_pos g2, if_pos (f1 g1 g2)]
    · simp only [if_neg g2]
  · by_cases g5 : -u < 0
    · simp only [if_neg g1, decide_eq_true g5, Bool.not_true, ite_self]
    · have e := f4 (by omega)
      simp only [List.cons.injEq, and_true] at e
      obtain ⟨e0, e1, e2, e3, e4, e5⟩ := e
      simp only [if_neg g1, if_neg g5, A_toList, e0, e1, e2, e3, e4, e5, BEq.rfl, Bool.not_true, Bool.or_self, Bool.false_eq_true, if_false]

theorem order (n m q : Int) (a0 a1 a2 a3 a4 a5 b0 b1 b2 b3 b4 b5 c0 c1 c2 c3 c4 c5 : ByteArray) :
    ∃ k, entaillaw2_TuplOrder.f k a0 a1 a2 a3 a4 a5 b0 b1 b2 b3 b4 b5 c0 c1 c2 c3 c4 c5 n m q = some true := by
  obtain ⟨⟨x0, x1, x2, x3, x4, x5⟩, hx, _⟩ := tame_eq n
  obtain ⟨⟨y0, y1, y2, y3, y4, y5⟩, hy, _⟩ := tame_eq m
  obtain ⟨⟨z0, z1, z2, z3, z4, z5⟩, hz, _⟩ := tame_eq q
  obtain ⟨K1, h1⟩ := step n m q 0 (by decide) a0 a1 a2 a3 a4 a5 b0 b1 b2 b3 b4 b5 c0 c1 c2 c3 c4 c5
  obtain ⟨K2, h2⟩ := step n m q 1 (by decide) x0 x1 x2 x3 x4 x5 y0 y1 y2 y3 y4 y5 z0 z1 z2 z3 z4 z5
  obtain ⟨K3, h3⟩ := awake2_ev
  have jn : ∀ k i, entaillaw2_TuplOrder.j1 (k + 1) n m q i false = entaillaw2_TuplOrder.l0 k n m q (wrap64 (i + 1)) x0 x1 x2 x3 x4 x5 y0 y1 y2 y3 y4 y5 z0 z1 z2 z3 z4 z5 := by
    intro k i
    simp only [entaillaw2_TuplOrder.j1, Bool.false_eq_true, if_false, hx, hy, hz, Option.bind_some]
  refine ⟨K1 + K2 + K3 + 5, ?_⟩
  unfold entaillaw2_TuplOrder.f
  rw [show K1 + K2 + K3 + 5 = (K1 + K2 + K3 + 4) + 1 by omega, h1 _ (by omega), show K1 + K2 + K3 + 4 = (K1 + K2 + K3 + 3) + 1 by omega, jn, show wrap64 (0 + 1) = 1 from wrap_id (by decide) (by decide)]
  rw [show K1 + K2 + K3 + 3 = (K1 + K2 + K3 + 2) + 1 by omega, h2 _ (by omega), show K1 + K2 + K3 + 2 = (K1 + K2 + K3 + 1) + 1 by omega, jn, show wrap64 (1 + 1) = 2 from wrap_id (by decide) (by decide)]
  simp only [entaillaw2_TuplOrder.l0]
  rw [if_neg (by decide)]
  have q3 : entaillaw2_awake.f (K1 + K2 + K3) = some true := h3 _ (by omega)
  simp only [q3, Option.bind_some]
end Go.Proofs.Ytjmlloiolppoiaa.PureTuplOrder
