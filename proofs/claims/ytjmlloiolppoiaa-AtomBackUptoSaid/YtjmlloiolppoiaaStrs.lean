/- A slice of texts among the arguments, as the words of the walk ask for it. -/
import Derived.Test.YtjmlloiolppoiaaWWords
import Derived.SliceStrings
import Derived.WalkKit
import Derived.ProofKit
namespace Go.Proofs.Ytjmlloiolppoiaa.Strs
open Go.ChangeShapes Go.WideShapes Go.ChangeAt Go.RowKit

/-- What a slice of texts holds. -/
def IsTexts (w : World) (a : Option Addr) (len cap : Nat) (l : List ByteArray) : Prop :=
  l.length = len ∧ len ≤ cap ∧ len ≤ maxLen ∧ (0 < len → ∃ x, a = some x ∧ ∀ i, i < len → w.cell? (x.add i) = some (.string (l.getD i ByteArray.empty)))

theorem texts_of {H : Type} {enc : TypeId × Value → H} {P : Program} {w : World} {base : Nat} {spare : Nat → Bool} {held : Bool} {t e : TypeId} {fuel : Nat} {a : Option Addr} {len cap : Nat} {x : DataW H × List MemPlace}
    (ht : P.underlying t = some (.slice e)) (he : P.underlying e = some .string) (hc : P.cellsOf e = 1)
    (h : DataW.trod enc P w base spare held fuel t (Value.cells (.slice a len cap)).toList = some x) :
    ∃ l, IsTexts w a len cap l ∧ ((x.1 = .nil ∧ l = []) ∨ ∃ more, x.1 = .slice (strs l) more) := by
  rcases open_strings ht he hc h with ⟨hcs, hx⟩ | ⟨y, l, c, ss, hcs, _, hl, hm, hz, hx, hcell, _⟩
  · simp [Value.cells] at hcs
    obtain ⟨rfl, rfl, rfl⟩ := hcs
    exact ⟨[], ⟨rfl, Nat.le_refl _, Nat.zero_le _, fun h => absurd h (by omega)⟩, .inl ⟨by rw [hx], rfl⟩⟩
  · simp [Value.cells] at hcs
    obtain ⟨rfl, rfl, rfl⟩ := hcs
    have hle : len ≤ ss.length := by split at hz <;> omega
    refine ⟨ss.take len, ⟨by rw [List.length_take]; omega, hl, Nat.le_trans hl hm, fun _ => ⟨y, rfl, fun i hi => ?_⟩⟩, .inr ⟨_, by rw [hx]⟩⟩
    rw [hcell i (by omega)]
    congr 2
    rw [List.getD_eq_getElem?_getD, List.getD_eq_getElem?_getD, List.getElem?_take, if_pos hi]

theorem reads_texts {w : World} {a : Option Addr} {len cap : Nat} {l : List ByteArray} (h : IsTexts w a len cap l) :
    Go.Proofs.YtjmlloiolppoiaaW.PrintWords.Kd.C Go.Proofs.YtjmlloiolppoiaaW.PrintWords.Kd.string w a l.length l ∧ l.length ≤ cap := by
  obtain ⟨h1, h2, h3, h4⟩ := h
  refine ⟨Go.Proofs.YtjmlloiolppoiaaW.PrintWords.Kd.C_of_reads (enc := Value.string) (d := ByteArray.empty) (h1 := fun _ => rfl) ⟨rfl, ?_, ?_⟩, by omega⟩
  · unfold maxLen at h3; omega
  · intro hpos
    rw [h1] at hpos
    obtain ⟨x, hx, hc⟩ := h4 hpos
    exact ⟨x, hx, fun j hj => hc j (by omega)⟩

end Go.Proofs.Ytjmlloiolppoiaa.Strs
