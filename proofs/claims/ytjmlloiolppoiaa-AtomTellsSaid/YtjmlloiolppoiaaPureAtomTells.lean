/- Any text is a name, an id, or not; any texts are joined and split as the document says. -/
import Derived.Test.YtjmlloiolppoiaaPx5
import Derived.Test.YtjmlloiolppoiaaAtomMore
namespace Go.Proofs.Ytjmlloiolppoiaa.PureTells1
open Go.RowKit Go.Proofs.Ytjmlloiolppoiaa.P Go.Proofs.YtjmlloiolppoiaaW.PrintWords Go.Proofs.YtjmlloiolppoiaaW.PrintLast Go.Proofs.Ytjmlloiolppoiaa.Base Go.Proofs.Ytjmlloiolppoiaa.Atom

theorem awake2 : Ev (fun k => (entaillaw1_awake.f k).bind fun t => some t) true := Ev.bind (f := fun _ t => some t) awake_ev (Ev.now _)

theorem last (x0 x1 : ByteArray) (l : List ByteArray) (h0 : x0.size ≤ 400) (h1 : x1.size ≤ 100) (hl : l.length ≤ 20) (hb : ∀ x ∈ l, x.size ≤ 100) :
    Ev (fun k => entaillaw1_AtomTells.l0 k x0 x1 l (l.length : Int)) true := by
  have hg := glue_len ⟨#[47]⟩ l 100 hb
  have h47 : (⟨#[47]⟩ : ByteArray).size = 1 := rfl
  rw [h47] at hg
  have hg2 : (glueL l ⟨#[47]⟩).length ≤ 2020 := Nat.le_trans hg (by have := Nat.mul_le_mul_right 101 hl; omega)
  have e1 := split_ev x0 (by omega)
  have e2 := rsplit_ev x0 (by omega)
  have e3 := name_ev x0
  have e4 := rname_ev x0
  have e5 := id_ev x0 (by omega)
  have e6 := rid_ev x0 (by omega)
  have e7 := join_eq x1 (by omega) l (by omega) (by omega)
  have e8 := rjoin_ev x1 (by omega) l (by omega) (by omega)
  obtain ⟨K1, k1⟩ := e1; obtain ⟨K2, k2⟩ := e2; obtain ⟨K3, k3⟩ := e3; obtain ⟨K4, k4⟩ := e4; obtain ⟨K5, k5⟩ := e5; obtain ⟨K6, k6⟩ := e6; obtain ⟨K8, k8⟩ := e8; obtain ⟨K9, k9⟩ := awake_ev
  refine ⟨K1 + K2 + K3 + K4 + K5 + K6 + K8 + K9 + 1, fun k hk => ?_⟩
  obtain ⟨k, rfl⟩ : ∃ i, k = i + 1 := ⟨k - 1, by omega⟩
  have q1 : atom_Split.f k x0 = _ := k1 k (by omega)
  have q2 : entailref1_Split.f k x0 = _ := k2 k (by omega)
  have q3 : atom_Name.f k x0 = _ := k3 k (by omega)
  have q4 : entailref1_Name.f k x0 = _ := k4 k (by omega)
  have q5 : atom_ID.f k x0 = _ := k5 k (by omega)
  have q6 : entailref1_ID.f k x0 = _ := k6 k (by omega)
  have q8 : entailref1_Join.f k x1 l = _ := k8 k (by omega)
  have q9 : entaillaw1_awake.f k = some true := k9 k (by omega)
  simp only [entaillaw1_AtomTells.l0]
  rw [if_neg (by omega), q1]; simp only [Option.bind_some]
  rw [q2]; simp only [Option.bind_some]
  rw [q3]; simp only [Option.bind_some]
  rw [q4]; simp only [Option.bind_some, beq_self_eq_true, if_true]
  rw [q5]; simp only [Option.bind_some]
  rw [q6]; simp only [Option.bind_some, beq_self_eq_true, if_true]
  rw [e7]; simp only [Option.bind_some]
  rw [q8]; simp only [Option.bind_some, if_true]
  rw [q9]; rfl

theorem l0_ev (x0 x1 : ByteArray) (l : List ByteArray) (h0 : x0.size ≤ 400) (h1 : x1.size ≤ 100) (hl : l.length ≤ 20) : ∀ (d i : Nat), l.length - i = d → i ≤ l.length → (∀ j, j < i → (l.getD j ByteArray.empty).size ≤ 100) →
    Ev (fun k => entaillaw1_AtomTells.l0 k x0 x1 l (i : Int)) true
  | 0, i, hd, hi, hb => by
    have : i = l.length := by omega
    subst this
    refine last x0 x1 l h0 h1 hl ?_
    intro x hx
    obtain ⟨j, hj, rfl⟩ := List.getElem_of_mem hx
    have := hb j hj
    rw [List.getD_eq_getElem?_getD, List.getElem?_eq_getElem hj] at this
    exact this
  | d + 1, i, hd, hi, hb => by
    have hrd : rdOf ByteArray.empty l (i : Int) = l.getD i ByteArray.empty := by unfold rdOf; rw [Int.toNat_natCast]
    by_cases g : ((l.getD i ByteArray.empty).size : Int) > 100
    · refine Ev.step (f := fun k => (entaillaw1_awake.f k).bind fun t => some t) (fun k => ?_) awake2
      simp only [entaillaw1_AtomTells.l0]
      rw [if_pos (by omega), if_pos (by omega), hrd, if_pos g]
    · refine Ev.step (f := fun k => entaillaw1_AtomTells.l0 k x0 x1 l ((i + 1 : Nat) : Int)) (fun k => ?_) (l0_ev x0 x1 l h0 h1 hl d (i + 1) (by omega) (by omega) ?_)
      · simp only [entaillaw1_AtomTells.l0]
        rw [if_pos (by omega), if_pos (by omega), hrd, if_neg g, wrap_id (by omega) (by omega)]
        rfl
      · intro j hj
        by_cases e : j = i
        · subst e; omega
        · exact hb j (by omega)

theorem tells (a0 a1 : ByteArray) (l2 : List ByteArray) : ∃ k, entaillaw1_AtomTells.f k a0 a1 l2 = some true := by
  refine Ev.rounds (g := fun k => entaillaw1_AtomTells.f k a0 a1 l2) ?_
  have ht : Ev (fun k => entaillaw1_AtomTells.j0 k a0 a1 l2 true) true := by
    refine Ev.step (f := fun k => (entaillaw1_awake.f k).bind fun t => some t) (fun k => ?_) awake2
    simp only [entaillaw1_AtomTells.j0, if_true]
  by_cases h0 : (a0.size : Int) > 400
  · refine Ev.congr (fun k => ?_) ht
    unfold entaillaw1_AtomTells.f; rw [if_pos h0]
  by_cases h1 : (a1.size : Int) > 100
  · refine Ev.congr (fun k => ?_) ht
    unfold entaillaw1_AtomTells.f; rw [if_neg h0, if_pos h1]
  refine Ev.congr (f := fun k => entaillaw1_AtomTells.j0 k a0 a1 l2 (decide ((l2.length : Int) > 20))) (fun k => ?_) ?_
  · unfold entaillaw1_AtomTells.f; rw [if_neg h0, if_neg h1]
  by_cases h2 : (l2.length : Int) > 20
  · rw [decide_eq_true h2]; exact ht
  · rw [decide_eq_false h2]
    refine Ev.step (f := fun k => entaillaw1_AtomTells.l0 k a0 a1 l2 ((0 : Nat) : Int)) (fun k => ?_) (l0_ev a0 a1 l2 (by omega) (by omega) (by omega) l2.length 0 (by omega) (by omega) (fun j hj => absurd hj (by omega)))
    simp only [entaillaw1_AtomTells.j0]; rw [if_neg (by decide)]; rfl

end Go.Proofs.Ytjmlloiolppoiaa.PureTells1
