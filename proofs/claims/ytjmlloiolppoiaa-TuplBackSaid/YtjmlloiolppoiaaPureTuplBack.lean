/- A tuple that may be is read as it was told; two have one text just if they are one. -/
import Derived.Test.YtjmlloiolppoiaaTuplTame
import Derived.Test.YtjmlloiolppoiaaPx23
namespace Go.Proofs.Ytjmlloiolppoiaa.PureTuplBack
open Go.RowKit Go.Proofs.Ytjmlloiolppoiaa.Num Go.Proofs.Ytjmlloiolppoiaa.P Go.Proofs.YtjmlloiolppoiaaW.PrintWords Go.Proofs.YtjmlloiolppoiaaW.PrintLast Go.Proofs.Ytjmlloiolppoiaa.Base Go.Proofs.Ytjmlloiolppoiaa.Atom Go.Proofs.Ytjmlloiolppoiaa.Tupl

theorem pure : entaillaw2_TuplBack.Pure := by
  intro a0 a1 _ _
  obtain ⟨⟨a, b, c, d, e, f⟩, hr, R⟩ := tame_eq a0
  obtain ⟨⟨a', b', c', d', e', f'⟩, hq, Q⟩ := tame_eq a1
  obtain ⟨Ro, r1, r2, r3, r4, r5, r6⟩ := R
  obtain ⟨Qo, q1, q2, q3, q4, q5, q6⟩ := Q
  simp only at Ro r1 r2 r3 r4 r5 r6 Qo q1 q2 q3 q4 q5 q6
  obtain ⟨K1, t1⟩ := text_ev a b c d e f (by omega) (by omega)
  obtain ⟨K2, t2⟩ := text_ev a' b' c' d' e' f' (by omega) (by omega)
  unfold textR at t1 t2
  rw [if_pos Ro] at t1
  rw [if_pos Qo] at t2
  have lS := text_len Ro; have lT := text_len Qo
  have cS := text_at Ro; have cT := text_at Qo
  have inj := text_inj Ro Qo
  have fS := fit_text Ro
  obtain ⟨p1, p2, p3, p4, p5, p6⟩ := parts_text Ro
  have uS : (textL (A a) (A b) (A c) (A d) (A e) (A f)).length ≤ 30 := by
    unfold textL; rw [← A_len] at r1 r2 r3 r4 r5 r6
    simp only [List.length_append, List.length_cons]
    by_cases n : A f = []
    · rw [if_pos n, List.length_nil]; omega
    · rw [if_neg n, List.length_cons]; omega
  have uT : (textL (A a') (A b') (A c') (A d') (A e') (A f')).length ≤ 30 := by
    unfold textL; rw [← A_len] at q1 q2 q3 q4 q5 q6
    simp only [List.length_append, List.length_cons]
    by_cases n : A f' = []
    · rw [if_pos n, List.length_nil]; omega
    · rw [if_neg n, List.length_cons]; omega
  have eqs : (textL (A a) (A b) (A c) (A d) (A e) (A f) == textL (A a') (A b') (A c') (A d') (A e') (A f')) = ((A a == A a' && A b == A b') && (A c == A c' && (A d == A d' && (A e == A e' && A f == A f')))) := by
    rw [Bool.eq_iff_iff]
    simp only [Bool.and_eq_true, beq_iff_eq]
    constructor
    · intro h; obtain ⟨h1, h2, h3, h4, h5, h6⟩ := inj h; exact ⟨⟨h1, h2⟩, h3, h4, h5, h6⟩
    · rintro ⟨⟨h1, h2⟩, h3, h4, h5, h6⟩; rw [h1, h2, h3, h4, h5, h6]
  generalize hS : textL (A a) (A b) (A c) (A d) (A e) (A f) = S at *
  generalize hT : textL (A a') (A b') (A c') (A d') (A e') (A f') = T at *
  have zS : (toB S).size = S.length := toB_size S
  have zT : (toB T).size = T.length := toB_size T
  obtain ⟨K3, t3⟩ := parse_ev (toB S) (by omega)
  rw [A_toB, if_pos fS, p1, p2, p3, p4, p5, p6] at t3
  simp only [toB_A] at t3
  obtain ⟨K4, t4⟩ := parse_ev (toB S ++ toB T) (by rw [ByteArray.size_append]; omega)
  have nf : ¬ fitL (A (toB S ++ toB T)) = true := by
    intro h
    obtain ⟨h1, h2⟩ := fit_is h
    have h3 := text_at h1
    rw [h2, A_append, A_toB, A_toB, List.count_append, cS, cT] at h3
    exact absurd h3 (by decide)
  rw [if_neg nf] at t4
  obtain ⟨K5, t5⟩ := parse_ev ((toB S).extract 0 (S.length / 2)) (by rw [ByteArray.size_extract]; omega)
  obtain ⟨K6, t6⟩ := ok_ev a b c d e f (by omega) (by omega)
  rw [Ro] at t6
  obtain ⟨K7, t7⟩ := awake2_ev
  refine ⟨K1 + K2 + K3 + K4 + K5 + K6 + K7, ?_⟩
  generalize hk : K1 + K2 + K3 + K4 + K5 + K6 + K7 = k
  have t1 : tupl_Text.f k a b c d e f = some (toB S) := t1 k (by omega)
  have t2 : tupl_Text.f k a' b' c' d' e' f' = some (toB T) := t2 k (by omega)
  have t3 : tupl_Parse.f k (toB S) = some (a, b, c, d, e, f, true) := t3 k (by omega)
  have t4 : tupl_Parse.f k (toB S ++ toB T) = some (⟨#[]⟩, ⟨#[]⟩, ⟨#[]⟩, ⟨#[]⟩, ⟨#[]⟩, ⟨#[]⟩, false) := t4 k (by omega)
  have t5 := t5 k (by omega)
  have t6 : tupl_Ok.f k a b c d e f = some true := t6 k (by omega)
  have t7 : entaillaw2_awake.f k = some true := t7 k (by omega)
  unfold entaillaw2_TuplBack.f
  simp only [hr, hq, Option.bind_some, t1, t2, t3]
  have w0 : wrap64 (((toB S).size : Int) / 2) = ((S.length / 2 : Nat) : Int) := by rw [zS, wrap_id (by omega) (by omega)]; omega
  rw [if_pos (show (toB S).size + (toB T).size ≤ 9223372036854775807 by omega)]
  simp only [t4, Option.bind_some, w0, Int.toNat_natCast]
  rw [if_pos (by omega), if_pos (by omega)]
  have e1 : ((toB S).toList == (toB T).toList) = ((a.toList == a'.toList && b.toList == b'.toList) && (c.toList == c'.toList && (d.toList == d'.toList && (e.toList == e'.toList && f.toList == f'.toList)))) := by
    simp only [A_toList, A_toB]; exact eqs
  rw [e1]
  by_cases g : fitL (A ((toB S).extract 0 (S.length / 2))) = true
  · have g2 := fit_is g
    have g3 := text_len g2.1
    rw [g2.2, A_len, ByteArray.size_extract] at g3
    simp only [t5, Option.bind_some]
    simp only [if_pos g, if_true, BEq.rfl, Bool.and_self, Bool.false_eq_true, if_false, t6, t7, Option.bind_some]
    rw [if_pos (by omega), if_pos (by omega)]
  · simp only [t5, Option.bind_some]
    simp only [if_neg g, if_true, BEq.rfl, Bool.and_self, Bool.false_eq_true, if_false, t6, t7, Option.bind_some]
    rw [if_pos (by omega)]
end Go.Proofs.Ytjmlloiolppoiaa.PureTuplBack
namespace Go.Proofs.Ytjmlloiolppoiaa.Pure
theorem TuplBack : P.entaillaw2_TuplBack.Pure := PureTuplBack.pure
end Go.Proofs.Ytjmlloiolppoiaa.Pure
