/- What is joined of a name is split into it and the rest; ids of two tenants are never the same. -/
import Derived.Test.YtjmlloiolppoiaaPx5
import Derived.Test.YtjmlloiolppoiaaAtomMore
namespace Go.Proofs.Ytjmlloiolppoiaa.PureBack1
open Go.RowKit Go.Proofs.Ytjmlloiolppoiaa.P Go.Proofs.YtjmlloiolppoiaaW.PrintWords Go.Proofs.YtjmlloiolppoiaaW.PrintLast Go.Proofs.Ytjmlloiolppoiaa.Base Go.Proofs.Ytjmlloiolppoiaa.Atom

theorem awake2 : Ev (fun k => (entaillaw1_awake.f k).bind fun t => some t) true := Ev.bind (f := fun _ t => some t) awake_ev (Ev.now _)

theorem name_snoc {l : List UInt8} (h : nameL l = true) (c : UInt8) (hc : plainB c = true) (hl : l.length < 30) : nameL (l ++ [c]) = true := by
  unfold nameL at h ⊢
  rw [Bool.and_eq_true, Bool.and_eq_true] at h
  obtain ⟨⟨_, h2⟩, h3⟩ := h
  rw [Bool.and_eq_true, Bool.and_eq_true]
  refine ⟨⟨decide_eq_true (by rw [List.length_append]; simp; omega), ?_⟩, ?_⟩
  · cases l with
    | nil => exact absurd h2 (by decide)
    | cons a l => exact h2
  · rw [List.all_append, h3, List.all_cons, hc]; rfl

theorem name_nc (c : UInt8) : nameL [110, c] = plainB c := by
  have e : nameL [110, c] = (plainB c && true) := rfl
  rw [e, Bool.and_true]

theorem tame_l0 (s : ByteArray) (hs : s.size ≤ 1000000000000000) : ∀ (l : List UInt8) (i : Nat) (acc : ByteArray), (A s).drop i = l → i ≤ s.size → nameL (A acc) = true → acc.size ≤ 12 →
    ∃ r, Ev (fun k => entaillaw1_Tame.l0 k s acc (i : Int)) r ∧ nameL (A r) = true ∧ r.size ≤ 12
  | [], i, acc, h, hi, hn, hz => by
    have := drop_nil_of h hi
    refine ⟨acc, ?_, hn, hz⟩
    refine Ev.step (f := fun k => entaillaw1_Tame.j1 k s acc (i : Int) false) (fun k => ?_) (Ev.step (f := fun _ => some acc) (fun k => ?_) (Ev.now _))
    · simp only [entaillaw1_Tame.l0]; rw [if_neg (by omega)]
    · simp only [entaillaw1_Tame.j1]; rw [if_neg (by decide)]
  | c :: r, i, acc, h, hi, hn, hz => by
    have hlt := lt_drop h
    by_cases g : (acc.size : Int) < 12
    · have hx : s.extract i (i + 1) = ⟨#[c]⟩ := by
        apply A_inj; rw [A_cut, h, show i + 1 - i = 1 by omega]; rfl
      have hN : A ((⟨#[110]⟩ : ByteArray) ++ (⟨#[c]⟩ : ByteArray)) = [110, c] := by rw [A_append]; rfl
      have hc1 : (⟨#[c]⟩ : ByteArray).size = 1 := rfl
      have hname := rname_ev ((⟨#[110]⟩ : ByteArray) ++ (⟨#[c]⟩ : ByteArray))
      rw [hN, name_nc] at hname
      have hwr : wrap64 ((i : Int) + 1) = ((i + 1 : Nat) : Int) := by rw [wrap_id (by omega) (by omega)]; rfl
      have step : ∀ k, entaillaw1_Tame.l0 (k + 2) s acc (i : Int) = (entailref1_Name.f k ((⟨#[110]⟩ : ByteArray) ++ (⟨#[c]⟩ : ByteArray))).bind fun t => if t = true then entaillaw1_Tame.l0 k s (acc ++ ⟨#[c]⟩) ((i + 1 : Nat) : Int) else entaillaw1_Tame.l0 k s acc ((i + 1 : Nat) : Int) := by
        intro k
        simp only [entaillaw1_Tame.l0]
        rw [if_pos (by omega), decide_eq_true g]
        simp only [entaillaw1_Tame.j1, if_true]
        rw [if_pos (by omega), hwr, if_pos (by omega), if_pos (by omega)]
        simp only [Int.toNat_natCast]
        rw [hx, if_pos (by omega), if_pos (by omega)]
      by_cases p : plainB c = true
      · obtain ⟨q, h1, h2⟩ := tame_l0 s hs r (i + 1) (acc ++ ⟨#[c]⟩) (drop_succ h) (by omega) (by rw [A_append]; exact name_snoc hn c p (by rw [A_len]; omega)) (by rw [ByteArray.size_append]; omega)
        refine ⟨q, ?_, h2⟩
        obtain ⟨K1, k1⟩ := hname; obtain ⟨K2, k2⟩ := h1
        refine ⟨K1 + K2 + 2, fun k hk => ?_⟩
        obtain ⟨k, rfl⟩ : ∃ j, k = j + 2 := ⟨k - 2, by omega⟩
        have q1 : entailref1_Name.f k ((⟨#[110]⟩ : ByteArray) ++ (⟨#[c]⟩ : ByteArray)) = some (plainB c) := k1 k (by omega)
        show entaillaw1_Tame.l0 (k + 2) s acc (i : Int) = _
        rw [step, q1, p]
        exact k2 k (by omega)
      · obtain ⟨q, h1, h2⟩ := tame_l0 s hs r (i + 1) acc (drop_succ h) (by omega) hn hz
        refine ⟨q, ?_, h2⟩
        obtain ⟨K1, k1⟩ := hname; obtain ⟨K2, k2⟩ := h1
        refine ⟨K1 + K2 + 2, fun k hk => ?_⟩
        obtain ⟨k, rfl⟩ : ∃ j, k = j + 2 := ⟨k - 2, by omega⟩
        have q1 : entailref1_Name.f k ((⟨#[110]⟩ : ByteArray) ++ (⟨#[c]⟩ : ByteArray)) = some (plainB c) := k1 k (by omega)
        show entaillaw1_Tame.l0 (k + 2) s acc (i : Int) = _
        rw [step, q1, show plainB c = false by simpa using p]
        exact k2 k (by omega)
    · refine ⟨acc, ?_, hn, hz⟩
      refine Ev.step (f := fun k => entaillaw1_Tame.j1 k s acc (i : Int) false) (fun k => ?_) (Ev.step (f := fun _ => some acc) (fun k => ?_) (Ev.now _))
      · simp only [entaillaw1_Tame.l0]; rw [if_pos (by omega), decide_eq_false g]
      · simp only [entaillaw1_Tame.j1]; rw [if_neg (by decide)]

theorem tame_ev (s : ByteArray) (hs : s.size ≤ 1000000000000000) : ∃ r, Ev (fun k => entaillaw1_Tame.f k s) r ∧ nameL (A r) = true ∧ r.size ≤ 12 :=
  tame_l0 s hs (A s) 0 ⟨#[110]⟩ rfl (by omega) (by decide) (by decide)

theorem cutA_app (d : UInt8) : ∀ (w r : List UInt8), (∀ c ∈ w, c ≠ d) → cutA d (w ++ d :: r) = w
  | [], r, _ => by unfold cutA; rw [List.nil_append, List.takeWhile_cons]; simp
  | c :: w, r, h => by
    have hc : c ≠ d := h c (List.mem_cons_self ..)
    have ih := cutA_app d w r fun e he => h e (List.mem_cons_of_mem _ he)
    unfold cutA at ih ⊢
    rw [List.cons_append, List.takeWhile_cons, if_pos (by simp [hc]), ih]
theorem cutB_app (d : UInt8) (w r : List UInt8) (h : ∀ c ∈ w, c ≠ d) : cutB d (w ++ d :: r) = r := by
  unfold cutB
  rw [cutA_app d w r h, ← List.drop_drop, List.drop_left]; rfl
theorem name_bar {l : List UInt8} (h : nameL l = true) : ∀ c ∈ l, c ≠ 124 := by
  intro c hc e
  subst e
  unfold nameL at h
  rw [Bool.and_eq_true, Bool.and_eq_true] at h
  have := (List.all_eq_true.1 h.2) 124 hc
  exact absurd this (by decide)
theorem split_join (t : ByteArray) (ht : nameL (A t) = true) (l : List ByteArray) : splitL (joinT t l) = (A t, glueL l ⟨#[47]⟩, true) := by
  have hb := name_bar ht
  unfold splitL joinT
  rw [cutA_app 124 _ _ hb, cutB_app 124 _ _ hb, if_pos ⟨by simp, ht⟩]

theorem back (a0 a1 : ByteArray) (l2 l3 : List ByteArray) (h0 : a0.size ≤ 1000000000000000) (h1 : a1.size ≤ 1000000000000000)
    (g2 : (glueL l2 ⟨#[47]⟩).length ≤ 140737488355328) (g3 : (glueL l3 ⟨#[47]⟩).length ≤ 140737488355328) : ∃ k, entaillaw1_AtomBack.f k a0 a1 l2 l3 = some true := by
  refine Ev.rounds (g := fun k => entaillaw1_AtomBack.f k a0 a1 l2 l3) ?_
  have ht : Ev (fun k => entaillaw1_AtomBack.j0 k a0 a1 l2 l3 true) true := by
    refine Ev.step (f := fun k => (entaillaw1_awake.f k).bind fun t => some t) (fun k => ?_) awake2
    simp only [entaillaw1_AtomBack.j0, if_true]
  by_cases c2 : (l2.length : Int) > 10
  · refine Ev.congr (fun k => ?_) ht
    unfold entaillaw1_AtomBack.f; rw [if_pos c2]
  refine Ev.congr (f := fun k => entaillaw1_AtomBack.j0 k a0 a1 l2 l3 (decide ((l3.length : Int) > 10))) (fun k => ?_) ?_
  · unfold entaillaw1_AtomBack.f; rw [if_neg c2]
  by_cases c3 : (l3.length : Int) > 10
  · rw [decide_eq_true c3]; exact ht
  rw [decide_eq_false c3]
  obtain ⟨s, hs, ns, zs⟩ := tame_ev a0 h0
  obtain ⟨u, hu, nu, zu⟩ := tame_ev a1 h1
  have j2 := join_eq s (by omega) l2 g2 (by omega)
  have j3 := join_eq u (by omega) l3 g3 (by omega)
  have hz : (toB (joinT s l2)).size ≤ 1000000000000000 := by
    rw [← A_len, A_toB, joinT, List.length_append, List.length_cons, A_len]; omega
  have sp := split_ev (toB (joinT s l2)) hz
  rw [A_toB, split_join s ns l2] at sp
  have gl := glue_ev l2 ⟨#[47]⟩ (by omega) (by omega)
  have nm := name_ev s
  rw [ns] at nm
  obtain ⟨K1, k1⟩ := hs; obtain ⟨K2, k2⟩ := hu; obtain ⟨K3, k3⟩ := sp; obtain ⟨K4, k4⟩ := gl; obtain ⟨K5, k5⟩ := nm; obtain ⟨K6, k6⟩ := awake_ev
  refine ⟨K1 + K2 + K3 + K4 + K5 + K6 + 1, fun k hk => ?_⟩
  obtain ⟨k, rfl⟩ : ∃ i, k = i + 1 := ⟨k - 1, by omega⟩
  have q1 : entaillaw1_Tame.f k a0 = some s := k1 k (by omega)
  have q2 : entaillaw1_Tame.f k a1 = some u := k2 k (by omega)
  have q3 : atom_Split.f k (toB (joinT s l2)) = _ := k3 k (by omega)
  have q4 : entailref1_Glue.f k l2 (⟨#[47]⟩ : ByteArray) = _ := k4 k (by omega)
  have q5 : atom_Name.f k s = some true := k5 k (by omega)
  have q6 : entaillaw1_awake.f k = some true := k6 k (by omega)
  show entaillaw1_AtomBack.j0 (k + 1) a0 a1 l2 l3 false = some true
  simp only [entaillaw1_AtomBack.j0]
  rw [if_neg (by decide), q1]; simp only [Option.bind_some]
  rw [q2]; simp only [Option.bind_some]
  rw [j2]; simp only [Option.bind_some]
  rw [q3]; simp only [Option.bind_some, if_true]
  rw [if_pos (show (toB (A s)).toList = s.toList by rw [toB_A]), q4]; simp only [Option.bind_some, if_true]
  by_cases e : s.toList = u.toList
  · rw [if_pos e, q5]; simp only [Option.bind_some, if_true]
    rw [q6]; rfl
  · rw [if_neg e, j3]; simp only [Option.bind_some]
    rw [if_neg, q5]
    · simp only [Option.bind_some, if_true]; rw [q6]; rfl
    · intro h
      rw [A_toList, A_toList, A_toB, A_toB] at h
      have x1 := split_join s ns l2
      have x2 := split_join u nu l3
      rw [h, x2] at x1
      apply e
      rw [A_toList, A_toList]
      exact (congrArg Prod.fst x1).symm

end Go.Proofs.Ytjmlloiolppoiaa.PureBack1
