/- Tuples that may be, of numbers. -/
import Derived.Test.YtjmlloiolppoiaaTupl
import Derived.Test.YtjmlloiolppoiaaNum
import Derived.Test.YtjmlloiolppoiaaPx21
namespace Go.Proofs.Ytjmlloiolppoiaa.Tupl
open Go.RowKit Go.Proofs.Ytjmlloiolppoiaa.Num Go.Proofs.Ytjmlloiolppoiaa.P Go.Proofs.YtjmlloiolppoiaaW.PrintWords Go.Proofs.YtjmlloiolppoiaaW.PrintLast Go.Proofs.Ytjmlloiolppoiaa.Base Go.Proofs.Ytjmlloiolppoiaa.Atom

theorem pick_name (y : List ByteArray) (i : Nat) (hi : i < y.length) (hy : ∀ s ∈ y, nameL (A s) = true ∧ s.size ≤ 3) :
    nameL (A (rdOf ByteArray.empty y (i : Int))) = true ∧ (rdOf ByteArray.empty y (i : Int)).size ≤ 3 := by
  have e : rdOf ByteArray.empty y (i : Int) = y[i] := by
    unfold rdOf; simp [List.getD, List.getElem?_eq_getElem hi]
  rw [e]; exact hy _ (List.getElem_mem hi)

theorem name_id {l : List UInt8} (h : nameL l = true) : idL l = true := by
  have h2 := name_le h
  unfold nameL at h
  rw [Bool.and_eq_true, Bool.and_eq_true, List.all_eq_true] at h
  unfold idL
  rw [Bool.and_eq_true, Bool.and_eq_true, List.all_eq_true]
  refine ⟨⟨decide_eq_true (fun e => ?_), decide_eq_true (by omega)⟩, fun x m => plain_id (h.2 x m)⟩
  rw [e] at h2; exact absurd h2.2 (by decide)

structure Tamed (r : ByteArray × ByteArray × ByteArray × ByteArray × ByteArray × ByteArray) : Prop where
  ok : okL (A r.1) (A r.2.1) (A r.2.2.1) (A r.2.2.2.1) (A r.2.2.2.2.1) (A r.2.2.2.2.2) = true
  s1 : r.1.size ≤ 3
  s2 : r.2.1.size ≤ 3
  s3 : r.2.2.1.size ≤ 3
  s4 : r.2.2.2.1.size ≤ 3
  s5 : r.2.2.2.2.1.size ≤ 3
  s6 : r.2.2.2.2.2.size ≤ 3

theorem tame_eq (n : Int) : ∃ r, entaillaw2_Tame.f n = some r ∧ Tamed r := by
  unfold entaillaw2_Tame.f
  obtain ⟨s2, e2, n2, z2, _⟩ := nm_eq (n / 2)
  obtain ⟨s5, e5, n5, z5, _⟩ := nm_eq (n / 8192)
  simp only [Option.bind_some, e2, e5, and1, and3, and255]
  have t0 : Int.tmod (n / 32 % 256) 3 = n / 32 % 256 % 3 := tmod_pos _ _ (by omega)
  rw [t0]
  obtain ⟨i1, h1⟩ : ∃ i : Nat, n % 2 = (i : Int) := ⟨(n % 2).toNat, by omega⟩
  obtain ⟨i3, h3⟩ : ∃ i : Nat, n / 16 % 2 = (i : Int) := ⟨(n / 16 % 2).toNat, by omega⟩
  obtain ⟨i4, h4⟩ : ∃ i : Nat, n / 32 % 256 % 3 = (i : Int) := ⟨(n / 32 % 256 % 3).toNat, by omega⟩
  obtain ⟨i6, h6⟩ : ∃ i : Nat, n / 262144 % 2 = (i : Int) := ⟨(n / 262144 % 2).toNat, by omega⟩
  rw [h1, h3, h4, h6]
  have p1 := pick_name [(⟨#[97]⟩ : ByteArray), (⟨#[98]⟩ : ByteArray)] i1 (by simp only [List.length_cons, List.length_nil]; omega) (by decide +kernel)
  have p3 := pick_name [(⟨#[114]⟩ : ByteArray), (⟨#[115]⟩ : ByteArray)] i3 (by simp only [List.length_cons, List.length_nil]; omega) (by decide +kernel)
  have p4 := pick_name [(⟨#[117]⟩ : ByteArray), (⟨#[97]⟩ : ByteArray), (⟨#[98]⟩ : ByteArray)] i4 (by simp only [List.length_cons, List.length_nil]; omega) (by decide +kernel)
  have p6 := pick_name [(⟨#[114]⟩ : ByteArray), (⟨#[115]⟩ : ByteArray)] i6 (by simp only [List.length_cons, List.length_nil]; omega) (by decide +kernel)
  simp only [List.length_cons, List.length_nil]
  rw [if_pos (by omega), if_pos (by omega), if_pos (by omega), if_pos (by omega), if_pos (by omega), if_pos (by omega)]
  by_cases g : n / 65536 % 4 = 0
  · rw [if_pos g, if_pos (by omega), if_pos (by omega)]
    exact ⟨_, rfl, okd.2 ⟨p1.1, name_id n2, p3.1, p4.1, name_id n5, Or.inr p6.1⟩, p1.2, z2, p3.2, p4.2, z5, p6.2⟩
  · rw [if_neg g]
    exact ⟨_, rfl, okd.2 ⟨p1.1, name_id n2, p3.1, p4.1, name_id n5, Or.inl rfl⟩, p1.2, z2, p3.2, p4.2, z5, Nat.zero_le _⟩
end Go.Proofs.Ytjmlloiolppoiaa.Tupl
