/- A tuple handed in by value, opened to its six texts. -/
import Derived.Test.YtjmlloiolppoiaaProg
import Derived.WalkKit
import Derived.ProofKit
import Derived.OpenShut
import Derived.ShutString
import Derived.ChangeOld
import Derived.ChangeSame
namespace Go.Proofs.Ytjmlloiolppoiaa.TupArg
open Go.ChangeShapes Go.WideShapes Go.ChangeAt Go.RowKit

theorem array6 {α : Type} {cs : Array α} (h : cs.size = 6) : ∃ c0 c1 c2 c3 c4 c5, cs = #[c0, c1, c2, c3, c4, c5] := by
  obtain ⟨l⟩ := cs
  match l, h with
  | [c0, c1, c2, c3, c4, c5], _ => exact ⟨c0, c1, c2, c3, c4, c5, rfl⟩

theorem one_string {H : Type} {enc : TypeId × Value → H} {w : World} {base n : Nat} {spare : Nat → Bool} {held : Bool} {c : Value} {x : Option (DataW H × List MemPlace)} (hx : x.isSome = true)
    (h : DataW.trod enc Try.prog w base spare held n 9 [c] = x) : ∃ s : ByteArray, c = .string s := by
  obtain ⟨y, rfl⟩ := Option.isSome_iff_exists.1 hx
  obtain ⟨s, e, _, _⟩ := DataW.trod_string Try.underlying9 h
  exact ⟨s, by simpa using e⟩

theorem cells_two : Try.prog.cellsOf 25 = 2 := by kernel_rfl
theorem cells_three : Try.prog.cellsOf 27 = 3 := by kernel_rfl
theorem cells_six : Try.prog.cellsOf 29 = 6 := by kernel_rfl
theorem cells_one : Try.prog.cellsOf 9 = 1 := by kernel_rfl

theorem open_tuple {H : Type} {enc : TypeId × Value → H} {w : World} {base b0 : Nat} {spare : Nat → Bool} {held : Bool} {r : Reach} {v : Value} {d : DataW H} {p : List MemPlace}
    (hv : Value.okWide Try.prog w r b0 29 v) (h : DataW.Trod enc Try.prog w base spare held 29 v d p) :
    ∃ a b c d e f : ByteArray, v = .agg #[.string a, .string b, .string c, .string d, .string e, .string f] := by
  obtain ⟨cs, rfl, hsz⟩ := okWide_struct Try.underlying29 hv
  obtain ⟨c0, c1, c2, c3, c4, c5, rfl⟩ := array6 (hsz.trans cells_six)
  obtain ⟨fuel, hf⟩ := h
  obtain ⟨xs, n, _, _, _, hlen, hg⟩ := DataW.trod_struct Try.underlying29 hf
  have g0 : DataW.trod enc Try.prog w base spare held n 25 [c0, c1] = xs[0]? := by
    have q := hg 0 _ rfl
    simpa [Value.cells, cells_two, cells_three, cells_one] using q
  have g1 : DataW.trod enc Try.prog w base spare held n 9 [c2] = xs[1]? := by
    have q := hg 1 _ rfl
    simpa [Value.cells, cells_two, cells_three, cells_one] using q
  have g2 : DataW.trod enc Try.prog w base spare held n 27 [c3, c4, c5] = xs[2]? := by
    have q := hg 2 _ rfl
    simpa [Value.cells, cells_two, cells_three, cells_one] using q
  have hl3 : xs.length = 3 := hlen
  have s0 : xs[0]? = some (xs[0]'(by omega)) := List.getElem?_eq_getElem (by omega)
  have s1 : xs[1]? = some (xs[1]'(by omega)) := List.getElem?_eq_getElem (by omega)
  have s2 : xs[2]? = some (xs[2]'(by omega)) := List.getElem?_eq_getElem (by omega)
  obtain ⟨t2, rfl⟩ := one_string (by rw [s1]; rfl) g1
  rw [s0] at g0
  rw [s2] at g2
  obtain ⟨ys, m, _, _, _, ylen, hy⟩ := DataW.trod_struct Try.underlying25 g0
  have yl : ys.length = 2 := ylen
  have y0 : DataW.trod enc Try.prog w base spare held m 9 [c0] = ys[0]? := by
    have q := hy 0 _ rfl
    simpa [Value.cells, cells_two, cells_three, cells_one] using q
  have y1 : DataW.trod enc Try.prog w base spare held m 9 [c1] = ys[1]? := by
    have q := hy 1 _ rfl
    simpa [Value.cells, cells_two, cells_three, cells_one] using q
  obtain ⟨t0, rfl⟩ := one_string (by rw [List.getElem?_eq_getElem (by omega)]; rfl) y0
  obtain ⟨t1, rfl⟩ := one_string (by rw [List.getElem?_eq_getElem (by omega)]; rfl) y1
  obtain ⟨zs, k, _, _, _, zlen, hz⟩ := DataW.trod_struct Try.underlying27 g2
  have zl : zs.length = 3 := zlen
  have z0 : DataW.trod enc Try.prog w base spare held k 9 [c3] = zs[0]? := by
    have q := hz 0 _ rfl
    simpa [Value.cells, cells_two, cells_three, cells_one] using q
  have z1 : DataW.trod enc Try.prog w base spare held k 9 [c4] = zs[1]? := by
    have q := hz 1 _ rfl
    simpa [Value.cells, cells_two, cells_three, cells_one] using q
  have z2 : DataW.trod enc Try.prog w base spare held k 9 [c5] = zs[2]? := by
    have q := hz 2 _ rfl
    simpa [Value.cells, cells_two, cells_three, cells_one] using q
  obtain ⟨t3, rfl⟩ := one_string (by rw [List.getElem?_eq_getElem (by omega)]; rfl) z0
  obtain ⟨t4, rfl⟩ := one_string (by rw [List.getElem?_eq_getElem (by omega)]; rfl) z1
  obtain ⟨t5, rfl⟩ := one_string (by rw [List.getElem?_eq_getElem (by omega)]; rfl) z2
  exact ⟨t0, t1, t2, t3, t4, t5, rfl⟩
end Go.Proofs.Ytjmlloiolppoiaa.TupArg
