/- The tokens of a text as plain lists of bytes, and small facts on bytes of a text. -/
import Derived.Test.YtjgjcbhkalcjoaaPx2
import Derived.Test.YtjgjcbhkalcjoaaPx6
import Derived.Test.YtjgjcbhkalcjoaaPx5
import Derived.Lib.IndexBytes
namespace Go.Proofs.Ytjgjcbhkalcjoaa.Tok
open Go.RowKit Go.Proofs.Ytjgjcbhkalcjoaa.P Go.Proofs.YtjgjcbhkalcjoaaW.PrintWords Go.Proofs.YtjgjcbhkalcjoaaW.PrintLast

/-- The bytes of a text. -/
def A (s : ByteArray) : List UInt8 := s.data.toList

theorem A_len (s : ByteArray) : (A s).length = s.size := (Lib.size_eq s).symm
theorem A_toList (s : ByteArray) : s.toList = A s := Lib.toList_data s
theorem A_from (s : ByteArray) (a : Nat) : A (s.extract a s.size) = (A s).drop a := Lib.extract_to_end s a
theorem A_cut (s : ByteArray) (a b : Nat) : A (s.extract a b) = ((A s).drop a).take (b - a) := Lib.extract_data s a b
theorem A_append (s t : ByteArray) : A (s ++ t) = A s ++ A t := by
  unfold A; simp
theorem A_inj {s t : ByteArray} (h : A s = A t) : s = t := by
  obtain ⟨⟨l⟩⟩ := s; obtain ⟨⟨m⟩⟩ := t
  unfold A at h; simp at h; rw [h]
theorem A_mk (l : List UInt8) : A ⟨⟨l⟩⟩ = l := rfl

theorem bt_get (s : ByteArray) (n : Nat) : bt s (n : Int) = (((A s).getD n 0).toNat : Int) := by
  obtain ⟨⟨l⟩⟩ := s
  unfold bt A
  simp only [Int.toNat_natCast]
  by_cases h : n < l.length
  · rw [dif_pos (show n < (ByteArray.mk ⟨l⟩).size from h)]
    rw [List.getD_eq_getElem?_getD, List.getElem?_eq_getElem h]; rfl
  · rw [dif_neg (show ¬ n < (ByteArray.mk ⟨l⟩).size from h)]
    rw [List.getD_eq_getElem?_getD, List.getElem?_eq_none (by omega)]; rfl

theorem bt_drop {s : ByteArray} {n : Nat} {c : UInt8} {r : List UInt8} (h : (A s).drop n = c :: r) : bt s (n : Int) = (c.toNat : Int) := by
  rw [bt_get]
  have : (A s)[n]? = some c := by
    have := congrArg (fun l => l[0]?) h
    simpa using this
  rw [List.getD_eq_getElem?_getD, this]; rfl

theorem lt_drop {s : ByteArray} {n : Nat} {c : UInt8} {r : List UInt8} (h : (A s).drop n = c :: r) : n < s.size := by
  have := congrArg List.length h
  rw [List.length_drop, A_len] at this
  simp at this; omega
theorem drop_succ {α : Type} {l : List α} {n : Nat} {c : α} {r : List α} (h : l.drop n = c :: r) : l.drop (n + 1) = r := by
  rw [← List.drop_drop, h]; rfl
theorem drop_nil_of {s : ByteArray} {n : Nat} (h : (A s).drop n = []) (hn : n ≤ s.size) : n = s.size := by
  have := congrArg List.length h
  rw [List.length_drop, A_len] at this
  simp at this; omega

theorem wrap_id {i : Int} (h0 : -9223372036854775808 ≤ i) (h1 : i < 9223372036854775808) : wrap64 i = i := by
  unfold wrap64; omega

def letB (c : UInt8) : Bool := decide ((97 ≤ c.toNat ∧ c.toNat ≤ 122) ∨ (48 ≤ c.toNat ∧ c.toNat ≤ 57) ∨ c.toNat = 95)
def blankB (c : UInt8) : Bool := decide (c.toNat = 32 ∨ c.toNat = 9 ∨ c.toNat = 10 ∨ c.toNat = 13)
def signs : List UInt8 := [123, 125, 58, 59, 124, 35, 61, 43, 45, 38, 40, 41]
def signB (c : UInt8) : Bool := signs.contains c

theorem part_all : ∀ n : Fin 256, entailref6_part.f (n.val : Int) = some (decide ((97 ≤ n.val ∧ n.val ≤ 122) ∨ (48 ≤ n.val ∧ n.val ≤ 57) ∨ n.val = 95)) := by decide +kernel
theorem part_eq (c : UInt8) : entailref6_part.f (c.toNat : Int) = some (letB c) := part_all ⟨c.toNat, c.toNat_lt⟩
theorem letter_eq (c : UInt8) : toke_letter.f (c.toNat : Int) = some (letB c) := part_eq c

/-- What stands at the beginning of a text and says nothing, one piece at a time. -/
def toNl (l : List UInt8) : List UInt8 := l.takeWhile (fun c => !(c == 10))
def skipL : Nat → List UInt8 → Nat
  | 0, _ => 0
  | n + 1, l => match l with
    | [] => 0
    | c :: r => if (c == 47 && r.head? == some 47) = true then (toNl (c :: r)).length + skipL n ((c :: r).drop (toNl (c :: r)).length) else if blankB c = true then 1 + skipL n r else 0

/-- The tokens from place p on, where the text from there on is l; or where a byte can't stand. n: rounds. -/
def scan : Nat → Nat → List UInt8 → List S30 × Option Nat
  | 0, _, _ => ([], none)
  | n + 1, p, l => match l with
    | [] => ([], none)
    | c :: r =>
      if blankB c = true then scan n (p + 1) r
      else if (c == 47 && r.head? == some 47) = true then scan n (p + (toNl (c :: r)).length) ((c :: r).drop (toNl (c :: r)).length)
      else if letB c = true then (⟨1, p, ⟨(c :: r.takeWhile letB).toArray⟩⟩ :: (scan n (p + 1 + (r.takeWhile letB).length) (r.drop (r.takeWhile letB).length)).1, (scan n (p + 1 + (r.takeWhile letB).length) (r.drop (r.takeWhile letB).length)).2)
      else if (c == 45 && r.head? == some 62) = true then (⟨2, p, ⟨#[45, 62]⟩⟩ :: (scan n (p + 2) (r.drop 1)).1, (scan n (p + 2) (r.drop 1)).2)
      else if signB c = true then (⟨2, p, ⟨#[c]⟩⟩ :: (scan n (p + 1) r).1, (scan n (p + 1) r).2)
      else ([], some p)

/-- What a scan answers: the tokens behind those that were found ahead, or the place. -/
def fin (acc : List S30) (x : List S30 × Option Nat) : List S30 × Int × Int :=
  match x.2 with
  | none => (acc ++ x.1, 0, 0)
  | some q => ([], (q : Int), 7)

end Go.Proofs.Ytjgjcbhkalcjoaa.Tok
