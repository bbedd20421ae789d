/- What is no tuple's text is told so: the rows, by running them. -/
import Derived.Test.YtjmlloiolppoiaaNum
import Derived.Test.YtjmlloiolppoiaaPx25
namespace Go.Proofs.Ytjmlloiolppoiaa.PureTuplForms
open Go.RowKit Go.Proofs.Ytjmlloiolppoiaa.Num Go.Proofs.Ytjmlloiolppoiaa.P Go.Proofs.YtjmlloiolppoiaaW.PrintWords Go.Proofs.YtjmlloiolppoiaaW.PrintLast

theorem same (k : Nat) (a b : Int) (h : Int.tmod (Go.bits .and .i64 a 255) ((21 : Nat) : Int) = Int.tmod (Go.bits .and .i64 b 255) ((21 : Nat) : Int)) : entaillaw2_TuplForms.f k a = entaillaw2_TuplForms.f k b := by
  unfold entaillaw2_TuplForms.f
  simp only [Option.bind_some, List.length_cons, List.length_nil, Nat.reduceAdd, h]

theorem rows : ∀ i : Fin 21, entaillaw2_TuplForms.f 60 (i.val : Int) = some true := by decide +kernel

theorem pure : entaillaw2_TuplForms.Pure := by
  intro a0 _
  have hj : Int.tmod (Go.bits .and .i64 a0 255) ((21 : Nat) : Int) = a0 % 256 % 21 := by rw [and255, tmod_pos _ _ (by omega)]; rfl
  obtain ⟨i, hi⟩ : ∃ i : Fin 21, (i.val : Int) = a0 % 256 % 21 := ⟨⟨(a0 % 256 % 21).toNat, by omega⟩, by show (((a0 % 256 % 21).toNat : Nat) : Int) = _; omega⟩
  refine ⟨60, ?_⟩
  rw [same 60 a0 (i.val : Int) ?_]
  · exact rows i
  · rw [hj, and255, tmod_pos _ _ (by omega)]
    have := i.isLt
    show _ = (i.val : Int) % 256 % 21
    omega
end Go.Proofs.Ytjmlloiolppoiaa.PureTuplForms
namespace Go.Proofs.Ytjmlloiolppoiaa.Pure
theorem TuplForms : P.entaillaw2_TuplForms.Pure := PureTuplForms.pure
end Go.Proofs.Ytjmlloiolppoiaa.Pure
