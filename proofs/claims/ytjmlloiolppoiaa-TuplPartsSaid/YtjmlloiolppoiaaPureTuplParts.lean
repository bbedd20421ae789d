/- The text of a tuple is its parts with the signs between; each part turned makes another text. -/
import Derived.Test.YtjmlloiolppoiaaTupl
import Derived.Test.YtjmlloiolppoiaaTuplLess
import Derived.Test.YtjmlloiolppoiaaNum
import Derived.Test.YtjmlloiolppoiaaPx16
namespace Go.Proofs.Ytjmlloiolppoiaa.PureTuplParts
open Go.RowKit Go.Proofs.Ytjmlloiolppoiaa.Num Go.Proofs.Ytjmlloiolppoiaa.P Go.Proofs.YtjmlloiolppoiaaW.PrintWords Go.Proofs.YtjmlloiolppoiaaW.PrintLast Go.Proofs.Ytjmlloiolppoiaa.Base Go.Proofs.Ytjmlloiolppoiaa.Atom Go.Proofs.Ytjmlloiolppoiaa.Tupl Go.Proofs.Ytjmlloiolppoiaa.TuplLess

theorem small_len {a b c d e f : ByteArray} (z0 : a.size ≤ 4) (z1 : b.size ≤ 4) (z2 : c.size ≤ 4) (z3 : d.size ≤ 4) (z4 : e.size ≤ 4) (z5 : f.size ≤ 4) : (textL (A a) (A b) (A c) (A d) (A e) (A f)).length ≤ 40 := by
  unfold textL
  rw [← A_len] at z0 z1 z2 z3 z4 z5
  simp only [List.length_append, List.length_cons]
  by_cases n : A f = []
  · rw [if_pos n, List.length_nil]; omega
  · rw [if_neg n, List.length_cons]; omega

theorem j0_ev (x0 x1 x2 x3 : Int) (n0 n1 n2 n3 n4 n5 u0 u1 u2 u3 u4 u5 : ByteArray) (h0 : entaillaw1_Nm.f x0 = some n0) (h1 : entaillaw1_Nm.f x1 = some n1) (h2 : entaillaw1_Nm.f x2 = some n2) (h3 : entaillaw1_Nm.f x3 = some n3)
    (h4 : entaillaw1_Nm.f (wrap64 (x0 + x1)) = some n4) (h5 : entaillaw1_Nm.f (wrap64 (x2 + x3)) = some n5)
    (z0 : n0.size ≤ 4) (z1 : n1.size ≤ 4) (z2 : n2.size ≤ 4) (z3 : n3.size ≤ 4) (z4 : n4.size ≤ 4) (z5 : n5.size ≤ 4)
    (y0 : u0.size ≤ 4) (y1 : u1.size ≤ 4) (y2 : u2.size ≤ 4) (y3 : u3.size ≤ 4) (y4 : u4.size ≤ 4) (y5 : u5.size ≤ 4)
    (on : okL (A n0) (A n1) (A n2) (A n3) (A n4) (A n5) = true) (nn : A n5 ≠ []) (ou : okL (A u0) (A u1) (A u2) (A u3) (A u4) (A u5) = true)
    (ne : [A n0, A n1, A n2, A n3, A n4, A n5] ≠ [A u0, A u1, A u2, A u3, A u4, A u5]) :
    ∃ K, ∀ k, K ≤ k → entaillaw2_TuplParts.j0 (k + 1) x0 x1 x2 x3 n0 n1 n2 n3 n4 n5 u0 u1 u2 u3 u4 u5 = some true := by
  obtain ⟨K1, t1⟩ := text_ev u0 u1 u2 u3 u4 u5 (by omega) (by omega)
  obtain ⟨K2, t2⟩ := text_ev n0 n1 n2 n3 n4 n5 (by omega) (by omega)
  unfold textR at t1 t2
  rw [if_pos ou] at t1
  rw [if_pos on] at t2
  have lU := small_len y0 y1 y2 y3 y4 y5
  have fU := fit_text ou
  obtain ⟨p0, p1, p2, p3, p4, p5⟩ := parts_text ou
  have inj := text_inj ou on
  have hN : A ((((((((((((n0 ++ (⟨#[58]⟩ : ByteArray)) ++ n1) ++ (⟨#[35]⟩ : ByteArray)) ++ n2) ++ (⟨#[64]⟩ : ByteArray)) ++ n3) ++ (⟨#[58]⟩ : ByteArray)) ++ n4) ++ (⟨#[35]⟩ : ByteArray)) ++ n5))) = textL (A n0) (A n1) (A n2) (A n3) (A n4) (A n5) := by
    unfold textL
    rw [if_neg nn]
    simp only [A_append, lit1, List.append_assoc, List.nil_append, List.cons_append]
  have dif : ¬ textL (A u0) (A u1) (A u2) (A u3) (A u4) (A u5) = textL (A n0) (A n1) (A n2) (A n3) (A n4) (A n5) := by
    intro h
    obtain ⟨e0, e1, e2, e3, e4, e5⟩ := inj h
    exact ne (by rw [e0, e1, e2, e3, e4, e5])
  generalize textL (A n0) (A n1) (A n2) (A n3) (A n4) (A n5) = N at *
  generalize textL (A u0) (A u1) (A u2) (A u3) (A u4) (A u5) = U at *
  obtain ⟨K3, t3⟩ := parse_ev (toB U) (by rw [toB_size]; omega)
  rw [A_toB, if_pos fU, p0, p1, p2, p3, p4, p5] at t3
  simp only [toB_A] at t3
  obtain ⟨K4, t4⟩ := less_ev n0 n1 n2 n3 n4 n5 u0 u1 u2 u3 u4 u5
  obtain ⟨K5, t5⟩ := less_ev u0 u1 u2 u3 u4 u5 n0 n1 n2 n3 n4 n5
  rw [cmps_swap [A n0, A n1, A n2, A n3, A n4, A n5] [A u0, A u1, A u2, A u3, A u4, A u5]] at t5
  have nz : cmps [A n0, A n1, A n2, A n3, A n4, A n5] [A u0, A u1, A u2, A u3, A u4, A u5] ≠ 0 := fun h => ne (cmps_zero _ _ rfl h)
  generalize cmps [A n0, A n1, A n2, A n3, A n4, A n5] [A u0, A u1, A u2, A u3, A u4, A u5] = c at *
  obtain ⟨K6, t6⟩ := awake2_ev
  refine ⟨K1 + K2 + K3 + K4 + K5 + K6, fun k hk => ?_⟩
  have t1 : tupl_Text.f k u0 u1 u2 u3 u4 u5 = some (toB U) := t1 k (by omega)
  have t2 : tupl_Text.f k n0 n1 n2 n3 n4 n5 = some (toB N) := t2 k (by omega)
  have t3 : tupl_Parse.f k (toB U) = some (u0, u1, u2, u3, u4, u5, true) := t3 k (by omega)
  have t4 : tupl_Less.f k n0 n1 n2 n3 n4 n5 u0 u1 u2 u3 u4 u5 = some (decide (c < 0)) := t4 k (by omega)
  have t5 : tupl_Less.f k u0 u1 u2 u3 u4 u5 n0 n1 n2 n3 n4 n5 = some (decide (-c < 0)) := t5 k (by omega)
  have t6 : entaillaw2_awake.f k = some true := t6 k (by omega)
  simp only [entaillaw2_TuplParts.j0, t1, t2, t3, t4, t5, t6, h0, h1, h2, h3, h4, h5, Option.bind_some]
  iterate 10 rw [if_pos (by (try simp only [ByteArray.size_append, siz1]); omega)]
  rw [A_toList, A_toList, A_toList, hN, A_toB, A_toB, if_pos rfl, if_neg dif]
  simp only [if_true, BEq.rfl, Bool.and_self]
  rw [if_pos]
  by_cases g : c < 0
  · rw [decide_eq_true g, decide_eq_false (by omega)]; rfl
  · rw [decide_eq_false g, decide_eq_true (by omega)]; rfl

theorem name_snoc {l : List UInt8} (h : nameL l = true) (c : UInt8) (hc : plainB c = true) (hl : l.length < 30) : nameL (l ++ [c]) = true := by
  unfold nameL at h ⊢
  rw [Bool.and_eq_true, Bool.and_eq_true] at h
  obtain ⟨⟨_, h2⟩, h3⟩ := h
  rw [Bool.and_eq_true, Bool.and_eq_true]
  refine ⟨⟨decide_eq_true (by rw [List.length_append]; simp; omega), ?_⟩, ?_⟩
  · cases l with
    | nil => exact absurd h2 (by decide)
    | cons a l => exact h2
  · rw [List.all_append, h3, List.all_cons, hc]; rfl
theorem id_snoc {l : List UInt8} (h : idL l = true) (c : UInt8) (hc : idB c = true) (hl : l.length < 250) : idL (l ++ [c]) = true := by
  unfold idL at h ⊢
  rw [Bool.and_eq_true] at h
  obtain ⟨_, h3⟩ := h
  rw [Bool.and_eq_true, Bool.and_eq_true]
  refine ⟨⟨decide_eq_true (by simp), decide_eq_true (by rw [List.length_append]; simp; omega)⟩, ?_⟩
  rw [List.all_append, h3, List.all_cons, hc]; rfl
theorem snoc_ne (l : List UInt8) (c : UInt8) : l ≠ l ++ [c] := by
  intro h
  have := congrArg List.length h
  rw [List.length_append, List.length_singleton] at this; omega

theorem pure : entaillaw2_TuplParts.Pure := by
  intro a0 a1 a2 a3 a4 _ _ _ _ _
  obtain ⟨n0, h0, m0, z0, _⟩ := nm_eq a0
  obtain ⟨n1, h1, m1, z1, _⟩ := nm_eq a1
  obtain ⟨n2, h2, m2, z2, _⟩ := nm_eq a2
  obtain ⟨n3, h3, m3, z3, _⟩ := nm_eq a3
  obtain ⟨n4, h4, m4, z4, _⟩ := nm_eq (wrap64 (a0 + a1))
  obtain ⟨n5, h5, m5, z5, _⟩ := nm_eq (wrap64 (a2 + a3))
  have on : okL (A n0) (A n1) (A n2) (A n3) (A n4) (A n5) = true := okd.2 ⟨m0, name_id m1, m2, m3, name_id m4, Or.inr m5⟩
  have nn : A n5 ≠ [] := by intro e; have := (name_le m5).2; rw [e] at this; exact absurd this (by decide)
  have step := fun u0 u1 u2 u3 u4 u5 => j0_ev a0 a1 a2 a3 n0 n1 n2 n3 n4 n5 u0 u1 u2 u3 u4 u5 h0 h1 h2 h3 h4 h5 (by omega) (by omega) (by omega) (by omega) (by omega) (by omega)
  have zs : ∀ (s : ByteArray) (c : UInt8), s.size ≤ 3 → (s ++ (⟨#[c]⟩ : ByteArray)).size ≤ 4 := fun s c h => by rw [ByteArray.size_append, siz1]; omega
  have al : ∀ (s : ByteArray) (c : UInt8), A (s ++ (⟨#[c]⟩ : ByteArray)) = A s ++ [c] := fun s c => by rw [A_append, lit1]
  have l30 : ∀ s : ByteArray, s.size ≤ 3 → (A s).length < 30 := fun s h => by rw [A_len]; omega
  have l250 : ∀ s : ByteArray, s.size ≤ 3 → (A s).length < 250 := fun s h => by rw [A_len]; omega
  have fin : ∀ u0 u1 u2 u3 u4 u5 : ByteArray, (∃ K, ∀ k, K ≤ k → entaillaw2_TuplParts.j0 (k + 1) a0 a1 a2 a3 n0 n1 n2 n3 n4 n5 u0 u1 u2 u3 u4 u5 = some true) → ∃ k, entaillaw2_TuplParts.j0 k a0 a1 a2 a3 n0 n1 n2 n3 n4 n5 u0 u1 u2 u3 u4 u5 = some true :=
    fun _ _ _ _ _ _ ⟨K, h⟩ => ⟨K + 1, h K (Nat.le_refl _)⟩
  unfold entaillaw2_TuplParts.f
  simp only [h0, h1, h2, h3, h4, h5, Option.bind_some]
  generalize Int.tmod (Go.bits .and .i64 a4 255) 6 = j
  by_cases g0 : j = 0
  · simp only [if_pos g0, if_pos (show n0.size + 1 ≤ 9223372036854775807 by omega)]
    refine fin _ _ _ _ _ _ (step _ _ _ _ _ _ (zs _ _ z0) (by omega) (by omega) (by omega) (by omega) (by omega) on nn ?_ ?_)
    · rw [al]; exact okd.2 ⟨name_snoc m0 _ (by decide) (l30 _ z0), name_id m1, m2, m3, name_id m4, Or.inr m5⟩
    · rw [al]; intro e; simp only [List.cons.injEq] at e; exact snoc_ne _ _ e.1
  · simp only [if_neg g0]
    by_cases g1 : j = 1
    · simp only [if_pos g1, if_pos (show n1.size + 1 ≤ 9223372036854775807 by omega)]
      refine fin _ _ _ _ _ _ (step _ _ _ _ _ _ (by omega) (zs _ _ z1) (by omega) (by omega) (by omega) (by omega) on nn ?_ ?_)
      · rw [al]; exact okd.2 ⟨m0, id_snoc (name_id m1) _ (by decide) (l250 _ z1), m2, m3, name_id m4, Or.inr m5⟩
      · rw [al]; intro e; simp only [List.cons.injEq] at e; exact snoc_ne _ _ e.2.1
    · simp only [if_neg g1]
      by_cases g2 : j = 2
      · simp only [if_pos g2, if_pos (show n2.size + 1 ≤ 9223372036854775807 by omega)]
        refine fin _ _ _ _ _ _ (step _ _ _ _ _ _ (by omega) (by omega) (zs _ _ z2) (by omega) (by omega) (by omega) on nn ?_ ?_)
        · rw [al]; exact okd.2 ⟨m0, name_id m1, name_snoc m2 _ (by decide) (l30 _ z2), m3, name_id m4, Or.inr m5⟩
        · rw [al]; intro e; simp only [List.cons.injEq] at e; exact snoc_ne _ _ e.2.2.1
      · simp only [if_neg g2]
        by_cases g3 : j = 3
        · simp only [if_pos g3, if_pos (show n3.size + 1 ≤ 9223372036854775807 by omega)]
          refine fin _ _ _ _ _ _ (step _ _ _ _ _ _ (by omega) (by omega) (by omega) (zs _ _ z3) (by omega) (by omega) on nn ?_ ?_)
          · rw [al]; exact okd.2 ⟨m0, name_id m1, m2, name_snoc m3 _ (by decide) (l30 _ z3), name_id m4, Or.inr m5⟩
          · rw [al]; intro e; simp only [List.cons.injEq] at e; exact snoc_ne _ _ e.2.2.2.1
        · simp only [if_neg g3]
          by_cases g4 : j = 4
          · simp only [if_pos g4, if_pos (show n4.size + 1 ≤ 9223372036854775807 by omega)]
            refine fin _ _ _ _ _ _ (step _ _ _ _ _ _ (by omega) (by omega) (by omega) (by omega) (zs _ _ z4) (by omega) on nn ?_ ?_)
            · rw [al]; exact okd.2 ⟨m0, name_id m1, m2, m3, id_snoc (name_id m4) _ (by decide) (l250 _ z4), Or.inr m5⟩
            · rw [al]; intro e; simp only [List.cons.injEq] at e; exact snoc_ne _ _ e.2.2.2.2.1
          · simp only [if_neg g4]
            refine fin _ _ _ _ _ _ (step _ _ _ _ _ _ (by omega) (by omega) (by omega) (by omega) (by omega) (Nat.zero_le _) on nn ?_ ?_)
            · exact okd.2 ⟨m0, name_id m1, m2, m3, name_id m4, Or.inl rfl⟩
            · intro e; simp only [List.cons.injEq] at e; exact nn e.2.2.2.2.2.1
end Go.Proofs.Ytjmlloiolppoiaa.PureTuplParts
namespace Go.Proofs.Ytjmlloiolppoiaa.Pure
theorem TuplParts : P.entaillaw2_TuplParts.Pure := PureTuplParts.pure
end Go.Proofs.Ytjmlloiolppoiaa.Pure
