/- Names and ids have as many bytes as the bounds say, and just the bytes that they may have. -/
import Derived.Test.YtjmlloiolppoiaaPx6
import Derived.Test.YtjmlloiolppoiaaAtom
namespace Go.Proofs.Ytjmlloiolppoiaa.PureBounds
open Go.RowKit Go.Proofs.Ytjmlloiolppoiaa.P Go.Proofs.YtjmlloiolppoiaaW.PrintWords Go.Proofs.YtjmlloiolppoiaaW.PrintLast Go.Proofs.Ytjmlloiolppoiaa.Base Go.Proofs.Ytjmlloiolppoiaa.Atom

theorem nameZ (n : Nat) (hn : 0 < n) : nameL (List.replicate n 122) = decide ((n : Int) ≤ 30) := by
  obtain ⟨m, rfl⟩ : ∃ m, n = m + 1 := ⟨n - 1, by omega⟩
  unfold nameL
  rw [List.length_replicate, List.all_eq_true.2 (by
    intro c hc
    rw [(List.mem_replicate.1 hc).2]; decide)]
  have : headB (List.replicate (m + 1) 122) = true := by rw [List.replicate_succ]; exact (by decide : firstB 122 = true)
  rw [this, Bool.and_true, Bool.and_true, Bool.eq_iff_iff, decide_eq_true_eq, decide_eq_true_eq]
  omega
theorem idS (n : Nat) (hn : 0 < n) : idL (List.replicate n 47) = decide ((n : Int) ≤ 250) := by
  obtain ⟨m, rfl⟩ : ∃ m, n = m + 1 := ⟨n - 1, by omega⟩
  unfold idL
  rw [List.length_replicate, List.all_eq_true.2 (by
    intro c hc
    rw [(List.mem_replicate.1 hc).2]; decide)]
  rw [decide_eq_true (show List.replicate (m + 1) (47 : UInt8) ≠ [] by rw [List.replicate_succ]; simp), Bool.true_and, Bool.and_true, Bool.eq_iff_iff, decide_eq_true_eq, decide_eq_true_eq]
  omega

theorem one_name (c : UInt8) : nameL [c] = firstB c := by
  have e : nameL [c] = (firstB c && (plainB c && true)) := rfl
  rw [e]
  by_cases h : firstB c = true
  · rw [h, first_plain h]; rfl
  · rw [show firstB c = false by simpa using h]; rfl
theorem a_name (c : UInt8) : nameL [97, c] = plainB c := by
  have e : nameL [97, c] = (plainB c && true) := rfl
  rw [e, Bool.and_true]
theorem one_id (c : UInt8) : idL [c] = idB c := by
  unfold idL; simp

theorem j2_ev (c : UInt8) (n m : Nat) (hn : 0 < n) (hm : 0 < m) (hm2 : m ≤ 1000) (x7 x8 x10 : ByteArray) (h7 : A x7 = List.replicate n 122) (h8 : A x8 = List.replicate m 47) (h10 : A x10 = [c]) :
    Ev (fun k => entaillaw1_AtomBounds.j2 k (c.toNat : Int) (n : Int) (m : Int) x7 x8 x10 (firstB c) (plainB c)) true := by
  have s8 : x8.size = m := by rw [← A_len, h8, List.length_replicate]
  have s10 : x10.size = 1 := by rw [← A_len, h10]; rfl
  have hA : A ((⟨#[97]⟩ : ByteArray) ++ x10) = [97, c] := by rw [A_append, h10]; rfl
  have e1 := name_ev x7
  have e2 := id_ev x8 (by omega)
  have e3 := name_ev x10
  have e4 := name_ev ((⟨#[97]⟩ : ByteArray) ++ x10)
  have e5 := id_ev x10 (by omega)
  rw [h7, nameZ n hn] at e1; rw [h8, idS m hm] at e2; rw [h10, one_name] at e3; rw [hA, a_name] at e4; rw [h10, one_id] at e5
  obtain ⟨K1, k1⟩ := e1; obtain ⟨K2, k2⟩ := e2; obtain ⟨K3, k3⟩ := e3; obtain ⟨K4, k4⟩ := e4; obtain ⟨K5, k5⟩ := e5; obtain ⟨K6, k6⟩ := awake_ev
  refine ⟨K1 + K2 + K3 + K4 + K5 + K6 + 1, fun k hk => ?_⟩
  obtain ⟨k, rfl⟩ : ∃ i, k = i + 1 := ⟨k - 1, by omega⟩
  have q1 : atom_Name.f k x7 = _ := k1 k (by omega)
  have q2 : atom_ID.f k x8 = _ := k2 k (by omega)
  have q3 : atom_Name.f k x10 = _ := k3 k (by omega)
  have q4 : atom_Name.f k ((⟨#[97]⟩ : ByteArray) ++ x10) = _ := k4 k (by omega)
  have q5 : atom_ID.f k x10 = _ := k5 k (by omega)
  have q6 : entaillaw1_awake.f k = some true := k6 k (by omega)
  simp only [entaillaw1_AtomBounds.j2]
  rw [q1]; simp only [Option.bind_some, beq_self_eq_true, if_true]
  rw [q2]; simp only [Option.bind_some, beq_self_eq_true, if_true]
  rw [q3]; simp only [Option.bind_some, beq_self_eq_true, if_true]
  rw [if_pos (by omega), q4]; simp only [Option.bind_some, beq_self_eq_true, if_true]
  rw [q5, q6]; simp only [Option.bind_some]
  by_cases p : plainB c = true
  · rw [if_pos p, plain_id p]; rfl
  · rw [if_neg p, id_of, show plainB c = false by simpa using p, Bool.false_or]
    by_cases g1 : c.toNat = 47
    · rw [if_pos (by omega), decide_eq_true (.inl g1)]; rfl
    rw [if_neg (by omega)]
    by_cases g2 : c.toNat = 124
    · rw [if_pos (by omega), decide_eq_true (.inr (.inl g2))]; rfl
    rw [if_neg (by omega)]
    have : decide (c.toNat = 47 ∨ c.toNat = 124 ∨ c.toNat = 42) = ((c.toNat : Int) == 42) := by
      rw [Bool.eq_iff_iff, decide_eq_true_eq, beq_iff_eq]; omega
    rw [this, if_pos (by simp)]

theorem j1_ev (c : UInt8) (n m : Nat) (hn : 0 < n) (hm : 0 < m) (hm2 : m ≤ 1000) (x7 x8 x10 : ByteArray) (h7 : A x7 = List.replicate n 122) (h8 : A x8 = List.replicate m 47) (h10 : A x10 = [c]) :
    Ev (fun k => entaillaw1_AtomBounds.j1 k (c.toNat : Int) (n : Int) (m : Int) x7 x8 x10 (firstB c)) true := by
  refine Ev.step (f := fun k => entaillaw1_AtomBounds.j2 k (c.toNat : Int) (n : Int) (m : Int) x7 x8 x10 (firstB c) (plainB c)) (fun k => ?_) (j2_ev c n m hn hm hm2 x7 x8 x10 h7 h8 h10)
  simp only [entaillaw1_AtomBounds.j1]
  by_cases f : firstB c = true
  · rw [if_pos f, first_plain f]
  · rw [if_neg f, plain_of, show firstB c = false by simpa using f, Bool.false_or]
    by_cases g1 : c.toNat = 95
    · rw [if_pos (by omega), decide_eq_true (.inl g1)]
    rw [if_neg (by omega)]
    by_cases g2 : c.toNat = 45
    · rw [if_pos (by omega), decide_eq_true (.inr (.inl g2))]
    rw [if_neg (by omega)]
    have : decide (c.toNat = 95 ∨ c.toNat = 45 ∨ c.toNat = 46) = ((c.toNat : Int) == 46) := by
      rw [Bool.eq_iff_iff, decide_eq_true_eq, beq_iff_eq]; omega
    rw [this]

theorem l0_ev (c : UInt8) (n m : Nat) (hn : 0 < n) (hn2 : n ≤ 40) (hm : 40 ≤ m) (hm2 : m ≤ 1000) : ∀ (d j : Nat) (x7 x8 : ByteArray), m - j = d → j ≤ m → A x7 = List.replicate (min j n) 122 → A x8 = List.replicate j 47 →
    Ev (fun k => entaillaw1_AtomBounds.l0 k (c.toNat : Int) (n : Int) (m : Int) x7 x8 (j : Int)) true
  | 0, j, x7, x8, hd, hj, h7, h8 => by
    have ej : j = m := by omega
    subst ej
    rw [Nat.min_eq_right (by omega)] at h7
    have h10 : A (strOfNums [(c.toNat : Int)]) = [c] := by
      show [((c.toNat : Int).toNat).toUInt8] = [c]
      rw [Int.toNat_natCast]; simp
    have hj1 := j1_ev c n j hn (by omega) hm2 x7 x8 _ h7 h8 h10
    refine Ev.step (f := fun k => entaillaw1_AtomBounds.j1 k (c.toNat : Int) (n : Int) (j : Int) x7 x8 (strOfNums [(c.toNat : Int)]) (firstB c)) (fun k => ?_) hj1
    simp only [entaillaw1_AtomBounds.l0]
    rw [if_neg (by omega)]
    simp only [Option.bind_some]
    unfold firstB
    by_cases g1 : (c.toNat : Int) ≥ 97
    · rw [if_pos g1]
      by_cases g2 : (c.toNat : Int) ≤ 122
      · rw [if_pos g2, decide_eq_true (.inl ⟨by omega, by omega⟩)]
      · rw [if_neg g2, if_pos (by omega)]
        congr 1
        rw [Bool.eq_iff_iff, decide_eq_true_eq, decide_eq_true_eq]; omega
    · rw [if_neg g1]
      by_cases g3 : (c.toNat : Int) ≥ 48
      · rw [if_pos g3]
        congr 1
        rw [Bool.eq_iff_iff, decide_eq_true_eq, decide_eq_true_eq]; omega
      · rw [if_neg g3, decide_eq_false (by omega)]
  | d + 1, j, x7, x8, hd, hj, h7, h8 => by
    have s7 : x7.size ≤ 40 := by rw [← A_len, h7, List.length_replicate]; omega
    have s8 : x8.size ≤ 1000 := by rw [← A_len, h8, List.length_replicate]; omega
    have h8' : A (x8 ++ ⟨#[47]⟩) = List.replicate (j + 1) 47 := by rw [A_append, h8, List.replicate_succ']; rfl
    by_cases g : j < n
    · have h7' : A (x7 ++ ⟨#[122]⟩) = List.replicate (min (j + 1) n) 122 := by
        rw [A_append, h7, Nat.min_eq_left (by omega), Nat.min_eq_left (by omega), List.replicate_succ']; rfl
      refine Ev.step (f := fun k => entaillaw1_AtomBounds.l0 k (c.toNat : Int) (n : Int) (m : Int) (x7 ++ ⟨#[122]⟩) (x8 ++ ⟨#[47]⟩) ((j + 1 : Nat) : Int)) (fun k => ?_) (l0_ev c n m hn hn2 hm hm2 d (j + 1) _ _ (by omega) (by omega) h7' h8')
      simp only [entaillaw1_AtomBounds.l0]
      rw [if_pos (by omega), if_pos (by omega), if_pos (by omega), if_pos (by omega), wrap_id (by omega) (by omega)]
      rfl
    · have h7' : A x7 = List.replicate (min (j + 1) n) 122 := by rw [h7, Nat.min_eq_right (by omega), Nat.min_eq_right (by omega)]
      refine Ev.step (f := fun k => entaillaw1_AtomBounds.l0 k (c.toNat : Int) (n : Int) (m : Int) x7 (x8 ++ ⟨#[47]⟩) ((j + 1 : Nat) : Int)) (fun k => ?_) (l0_ev c n m hn hn2 hm hm2 d (j + 1) _ _ (by omega) (by omega) h7' h8')
      simp only [entaillaw1_AtomBounds.l0]
      rw [if_pos (by omega), if_neg (by omega), if_pos (by omega), wrap_id (by omega) (by omega)]
      rfl

theorem AtomBounds : entaillaw1_AtomBounds.Pure := by
  intro a0 a1 a2 w0 _ _
  have hb : 0 ≤ a0 ∧ a0 ≤ 255 := by simp [Lit.wf, IntKind.min, IntKind.max, IntKind.signed, IntKind.bits] at w0; omega
  obtain ⟨c, rfl⟩ : ∃ c : UInt8, a0 = (c.toNat : Int) := ⟨UInt8.ofNat a0.toNat, by rw [UInt8.toNat_ofNat']; omega⟩
  refine Ev.rounds (g := fun k => entaillaw1_AtomBounds.f k (c.toNat : Int) a1 a2) ?_
  obtain ⟨n, hn⟩ : ∃ n : Nat, (n : Int) = 25 + a1 % 8 := ⟨(25 + a1 % 8).toNat, by omega⟩
  obtain ⟨m, hm⟩ : ∃ m : Nat, (m : Int) = 245 + a2 % 8 := ⟨(245 + a2 % 8).toNat, by omega⟩
  refine Ev.congr (f := fun k => entaillaw1_AtomBounds.l0 k (c.toNat : Int) (n : Int) (m : Int) ⟨#[]⟩ ⟨#[]⟩ ((0 : Nat) : Int)) (fun k => ?_) (l0_ev c n m (by omega) (by omega) (by omega) (by omega) m 0 ⟨#[]⟩ ⟨#[]⟩ (by omega) (by omega) (by rw [Nat.zero_min]; rfl) rfl)
  unfold entaillaw1_AtomBounds.f
  rw [Num.and7, Num.and7, wrap_id (by omega) (by omega), wrap_id (by omega) (by omega), ← hn, ← hm]
  rfl

end Go.Proofs.Ytjmlloiolppoiaa.PureBounds
namespace Go.Proofs.Ytjmlloiolppoiaa.Pure
theorem AtomBounds : P.entaillaw1_AtomBounds.Pure := PureBounds.AtomBounds
end Go.Proofs.Ytjmlloiolppoiaa.Pure
