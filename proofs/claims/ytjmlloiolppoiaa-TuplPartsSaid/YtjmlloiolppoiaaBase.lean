/- Small facts on the bytes of a text. -/
import Derived.Test.YtjmlloiolppoiaaPx2
import Derived.Lib.IndexBytes
import Derived.Test.YtjmlloiolppoiaaNum
namespace Go.Proofs.Ytjmlloiolppoiaa.Base
open Go.RowKit Go.Proofs.Ytjmlloiolppoiaa.P Go.Proofs.YtjmlloiolppoiaaW.PrintWords Go.Proofs.YtjmlloiolppoiaaW.PrintLast

/-- The bytes of a text. -/
def A (s : ByteArray) : List UInt8 := s.data.toList

theorem A_len (s : ByteArray) : (A s).length = s.size := (Lib.size_eq s).symm
theorem A_toList (s : ByteArray) : s.toList = A s := Lib.toList_data s
theorem A_from (s : ByteArray) (a : Nat) : A (s.extract a s.size) = (A s).drop a := Lib.extract_to_end s a
theorem A_cut (s : ByteArray) (a b : Nat) : A (s.extract a b) = ((A s).drop a).take (b - a) := Lib.extract_data s a b
theorem A_append (s t : ByteArray) : A (s ++ t) = A s ++ A t := by
  unfold A; simp
theorem A_inj {s t : ByteArray} (h : A s = A t) : s = t := by
  obtain ⟨⟨l⟩⟩ := s; obtain ⟨⟨m⟩⟩ := t
  unfold A at h; simp at h; rw [h]
theorem A_mk (l : List UInt8) : A ⟨⟨l⟩⟩ = l := rfl

theorem bt_get (s : ByteArray) (n : Nat) : bt s (n : Int) = (((A s).getD n 0).toNat : Int) := by
  obtain ⟨⟨l⟩⟩ := s
  unfold bt A
  simp only [Int.toNat_natCast]
  by_cases h : n < l.length
  · rw [dif_pos (show n < (ByteArray.mk ⟨l⟩).size from h)]
    rw [List.getD_eq_getElem?_getD, List.getElem?_eq_getElem h]; rfl
  · rw [dif_neg (show ¬ n < (ByteArray.mk ⟨l⟩).size from h)]
    rw [List.getD_eq_getElem?_getD, List.getElem?_eq_none (by omega)]; rfl

theorem bt_drop {s : ByteArray} {n : Nat} {c : UInt8} {r : List UInt8} (h : (A s).drop n = c :: r) : bt s (n : Int) = (c.toNat : Int) := by
  rw [bt_get]
  have : (A s)[n]? = some c := by
    have := congrArg (fun l => l[0]?) h
    simpa using this
  rw [List.getD_eq_getElem?_getD, this]; rfl

theorem lt_drop {s : ByteArray} {n : Nat} {c : UInt8} {r : List UInt8} (h : (A s).drop n = c :: r) : n < s.size := by
  have := congrArg List.length h
  rw [List.length_drop, A_len] at this
  simp at this; omega
theorem drop_succ {α : Type} {l : List α} {n : Nat} {c : α} {r : List α} (h : l.drop n = c :: r) : l.drop (n + 1) = r := by
  rw [← List.drop_drop, h]; rfl
theorem drop_nil_of {s : ByteArray} {n : Nat} (h : (A s).drop n = []) (hn : n ≤ s.size) : n = s.size := by
  have := congrArg List.length h
  rw [List.length_drop, A_len] at this
  simp at this; omega

theorem wrap_id {i : Int} (h0 : -9223372036854775808 ≤ i) (h1 : i < 9223372036854775808) : wrap64 i = i := by
  unfold wrap64; omega

theorem indexByte_nil (c : UInt8) : Lib.indexByte [] c = -1 := rfl
theorem indexByte_hit (b c : UInt8) (l : List UInt8) (h : b = c) : Lib.indexByte (b :: l) c = 0 := by
  simp [Lib.indexByte, h]
theorem indexByte_miss (b c : UInt8) (l : List UInt8) (h : b ≠ c) : Lib.indexByte (b :: l) c = if Lib.indexByte l c = -1 then -1 else Lib.indexByte l c + 1 := by
  simp [Lib.indexByte, h]
theorem indexByte_mem (c : UInt8) : ∀ l, (0 ≤ Lib.indexByte l c) ↔ c ∈ l
  | [] => by simp [Lib.indexByte]
  | b :: l => by
    have h0 := Lib.indexByte_ge l c
    have ih := indexByte_mem c l
    by_cases h : b = c
    · rw [indexByte_hit b c l h]; simp [h]
    · rw [indexByte_miss b c l h, List.mem_cons]
      have h2 : ¬ c = b := fun e => h e.symm
      by_cases g : Lib.indexByte l c = -1
      · rw [if_pos g]
        have : ¬ c ∈ l := by rw [← ih]; omega
        simp [h2, this]
      · rw [if_neg g]
        have : c ∈ l := by rw [← ih]; omega
        simp [this]; omega

theorem eq_nat {c d : UInt8} : ((c.toNat : Int) = (d.toNat : Int)) ↔ c = d := by
  constructor
  · intro h; exact UInt8.toNat_inj.1 (by omega)
  · intro h; rw [h]
end Go.Proofs.Ytjmlloiolppoiaa.Base
