/- How plain data stand for Go's values and memory; operations that look at no memory give what the plain ones say. -/
import Derived.Test.YtgcciohenncplaaAi1
import Derived.WalkKit
import Derived.Deep.MidRow
import Derived.Laws.IdiomCopy
namespace Go.Proofs.Ytgcciohenncplaa.Ai
noncomputable section
open Go.RowKit (Below)

/-- Where a block lies: its number, the cells of a row, how many rows there is room for. -/
structure Loc where
  b : Nat
  s : Nat
  cap : Nat
/-- 'imm': the cells that nobody writes any more. -/
structure Env where
  loc : Nat → Option Loc
  imm : Nat → Nat → Option Value

inductive Rel (ρ : Env) : AV → Value → Prop
  | top {V : Value} : Rel ρ .top V
  | bool {b : Bool} : Rel ρ (.bool b) (.bool b)
  | int {k : IntKind} {n : Int} : Rel ρ (.int k n) (.int k n)
  | str {l : List UInt8} {s : ByteArray} (h : s.data.toList = l) : Rel ρ (.str l) (.string s)
  | nilp : Rel ρ .nilp (.pointer none)
  | ptr {id i k : Nat} {L : Loc} (h : ρ.loc id = some L) : Rel ρ (.ptr id i k) (.pointer (some ⟨L.b, i * L.s + k, none⟩))
  | rptr {row : List AV} {k b o : Nat} {c : Nat → Value} (hi : ∀ j, j < row.length → ρ.imm b (o + j) = some (c j)) (hr : ∀ j x, row[j]? = some x → Rel ρ x (c j)) : Rel ρ (.rptr row k) (.pointer (some ⟨b, o + k, none⟩))
  | nils : Rel ρ .nils (.slice none 0 0)
  | emp {a : Addr} : Rel ρ .emp (.slice (some a) 0 0)
  | sl {id i n rc : Nat} {t : Bool} {L : Loc} (h : ρ.loc id = some L) (hn : n ≤ rc) (ht : t = true → rc = n) (hf : t = false → i + rc = L.cap) : Rel ρ (.sl id i n L.s t) (.slice (some ⟨L.b, i * L.s, none⟩) n rc)
  | ro0 {a : Addr} {rc : Nat} : Rel ρ (.ro []) (.slice (some a) 0 rc)
  | ro {rows : List (List AV)} {b o s rc : Nat} {c : Nat → Value} (hn : rows.length ≤ rc) (hl : ∀ (i : Nat) row, rows[i]? = some row → row.length = s)
      (hi : ∀ (i : Nat) row (j : Nat), rows[i]? = some row → j < s → ρ.imm b (o + (i * s + j)) = some (c (i * s + j)))
      (hr : ∀ (i : Nat) row (j : Nat) x, rows[i]? = some row → row[j]? = some x → Rel ρ x (c (i * s + j))) : Rel ρ (.ro rows) (.slice (some ⟨b, o, none⟩) rows.length rc)
  | nilm : Rel ρ .nilm (.map none)
  | map {id : Nat} {L : Loc} (h : ρ.loc id = some L) : Rel ρ (.map id) (.map (some L.b))
  | fn {f : Nat} {caps : List AV} {vs : Array Value} (hz : vs.size = caps.length) (h : ∀ (j : Nat) x, caps[j]? = some x → Rel ρ x (vs.getD j undef)) : Rel ρ (.fn f caps) (.func (.func f) #[] vs)
  | nilf : Rel ρ .nilf .nilFunc
  | agg {cs : List AV} {vs : Array Value} (hz : vs.size = cs.length) (h : ∀ (j : Nat) x, cs[j]? = some x → Rel ρ x (vs.getD j undef)) : Rel ρ (.agg cs) (.agg vs)
  | tup {cs : List AV} {vs : Array Value} (hz : vs.size = cs.length) (h : ∀ (j : Nat) x, cs[j]? = some x → Rel ρ x (vs.getD j undef)) : Rel ρ (.tup cs) (.tuple vs)

/-- More is known of where things lie. -/
structure Ext (ρ ρ' : Env) : Prop where
  loc : ∀ id L, ρ.loc id = some L → ρ'.loc id = some L
  imm : ∀ b o v, ρ.imm b o = some v → ρ'.imm b o = some v
theorem Ext.refl (ρ : Env) : Ext ρ ρ := ⟨fun _ _ h => h, fun _ _ _ h => h⟩
theorem Ext.trans {ρ ρ' ρ'' : Env} (h : Ext ρ ρ') (h' : Ext ρ' ρ'') : Ext ρ ρ'' := ⟨fun i L q => h'.loc i L (h.loc i L q), fun b o v q => h'.imm b o v (h.imm b o v q)⟩

theorem Rel.mono {ρ ρ' : Env} (hx : Ext ρ ρ') {v : AV} {V : Value} (h : Rel ρ v V) : Rel ρ' v V := by
  induction h with
  | top => exact .top
  | bool => exact .bool
  | int => exact .int
  | str h => exact .str h
  | nilp => exact .nilp
  | ptr h => exact .ptr (hx.loc _ _ h)
  | rptr hi hr ih => exact .rptr (fun j hj => hx.imm _ _ _ (hi j hj)) ih
  | nils => exact .nils
  | emp => exact .emp
  | sl h hn ht hf => exact .sl (hx.loc _ _ h) hn ht hf
  | ro0 => exact .ro0
  | ro hn hl hi hr ih => exact .ro hn hl (fun i row j h1 h2 => hx.imm _ _ _ (hi i row j h1 h2)) ih
  | nilm => exact .nilm
  | map h => exact .map (hx.loc _ _ h)
  | fn hz h ih => exact .fn hz ih
  | nilf => exact .nilf
  | agg hz h ih => exact .agg hz ih
  | tup hz h ih => exact .tup hz ih

/-- A list of values. -/
structure RelL (ρ : Env) (cs : List AV) (vs : List Value) : Prop where
  len : vs.length = cs.length
  at_ : ∀ (j : Nat) x, cs[j]? = some x → Rel ρ x (vs.getD j undef)
theorem RelL.mono {ρ ρ' : Env} (hx : Ext ρ ρ') {cs : List AV} {vs : List Value} (h : RelL ρ cs vs) : RelL ρ' cs vs := ⟨h.len, fun j x q => (h.at_ j x q).mono hx⟩
theorem RelL.nil {ρ : Env} : RelL ρ [] [] := ⟨rfl, fun j x h => by cases h⟩
theorem RelL.cons {ρ : Env} {x : AV} {V : Value} {cs : List AV} {vs : List Value} (h : Rel ρ x V) (hr : RelL ρ cs vs) : RelL ρ (x :: cs) (V :: vs) := by
  refine ⟨by simp [hr.len], fun j y hy => ?_⟩
  cases j with
  | zero => simp at hy; subst hy; simpa using h
  | succ j => simp at hy; simpa using hr.at_ j y hy
theorem RelL.append {ρ : Env} {cs ds : List AV} {vs us : List Value} (h : RelL ρ cs vs) (h' : RelL ρ ds us) : RelL ρ (cs ++ ds) (vs ++ us) := by
  refine ⟨by simp [h.len, h'.len], fun j y hy => ?_⟩
  by_cases hj : j < cs.length
  · rw [List.getElem?_append_left hj] at hy
    have := h.at_ j y hy
    simp only [List.getD_eq_getElem?_getD] at this ⊢
    rwa [List.getElem?_append_left (by rw [h.len]; exact hj)]
  · rw [List.getElem?_append_right (by omega)] at hy
    have := h'.at_ _ y hy
    simp only [List.getD_eq_getElem?_getD] at this ⊢
    rwa [List.getElem?_append_right (by rw [h.len]; omega), h.len]
theorem RelL.take {ρ : Env} {cs : List AV} {vs : List Value} (h : RelL ρ cs vs) (n : Nat) : RelL ρ (cs.take n) (vs.take n) := by
  refine ⟨by simp [h.len], fun j y hy => ?_⟩
  have hj : j < n ∧ cs[j]? = some y := by
    rw [List.getElem?_take] at hy
    split at hy
    · exact ⟨by assumption, hy⟩
    · cases hy
  have := h.at_ j y hj.2
  simp only [List.getD_eq_getElem?_getD] at this ⊢
  rwa [List.getElem?_take, if_pos hj.1]
theorem RelL.drop {ρ : Env} {cs : List AV} {vs : List Value} (h : RelL ρ cs vs) (n : Nat) : RelL ρ (cs.drop n) (vs.drop n) := by
  refine ⟨by simp [h.len], fun j y hy => ?_⟩
  rw [List.getElem?_drop] at hy
  have := h.at_ _ y hy
  simp only [List.getD_eq_getElem?_getD] at this ⊢
  rwa [List.getElem?_drop]
theorem RelL.set {ρ : Env} {cs : List AV} {vs : List Value} (h : RelL ρ cs vs) (i : Nat) {x : AV} {V : Value} (hx : Rel ρ x V) : RelL ρ (cs.set i x) (vs.set i V) := by
  refine ⟨by simp [h.len], fun j y hy => ?_⟩
  rw [List.getElem?_set] at hy
  simp only [List.getD_eq_getElem?_getD]
  rw [List.getElem?_set]
  by_cases hij : i = j
  · subst hij
    rw [if_pos rfl] at hy ⊢
    by_cases hl : i < cs.length
    · rw [if_pos hl] at hy
      rw [if_pos (by rw [h.len]; exact hl)]
      cases hy; exact hx
    · rw [if_neg hl] at hy; cases hy
  · rw [if_neg hij] at hy ⊢
    have := h.at_ j y hy
    rwa [List.getD_eq_getElem?_getD] at this
theorem RelL.get {ρ : Env} {cs : List AV} {vs : List Value} (h : RelL ρ cs vs) {j : Nat} {x : AV} (hj : cs[j]? = some x) : ∃ V, vs[j]? = some V ∧ Rel ρ x V := by
  have hl : j < vs.length := by
    rw [h.len]; exact (List.getElem?_eq_some_iff.1 hj).1
  refine ⟨vs[j], List.getElem?_eq_getElem hl, ?_⟩
  have := h.at_ j x hj
  rwa [List.getD_eq_getElem?_getD, List.getElem?_eq_getElem hl] at this
theorem RelL.replicate {ρ : Env} {x : AV} {V : Value} (h : Rel ρ x V) (n : Nat) : RelL ρ (List.replicate n x) (List.replicate n V) := by
  induction n with
  | zero => exact .nil
  | succ n ih => exact .cons h ih

theorem arr_getD (vs : Array Value) (j : Nat) : vs.getD j undef = vs.toList.getD j undef := by
  simp [Array.getD_eq_getD_getElem?, List.getD_eq_getElem?_getD]
theorem Rel.agg' {ρ : Env} {cs : List AV} {vs : List Value} (h : RelL ρ cs vs) : Rel ρ (.agg cs) (.agg vs.toArray) := by
  refine .agg (by simpa using h.len) fun j x hx => ?_
  rw [arr_getD]; exact h.at_ j x hx
theorem Rel.tup' {ρ : Env} {cs : List AV} {vs : List Value} (h : RelL ρ cs vs) : Rel ρ (.tup cs) (.tuple vs.toArray) := by
  refine .tup (by simpa using h.len) fun j x hx => ?_
  rw [arr_getD]; exact h.at_ j x hx
theorem Rel.fn' {ρ : Env} {f : Nat} {cs : List AV} {vs : List Value} (h : RelL ρ cs vs) : Rel ρ (.fn f cs) (.func (.func f) #[] vs.toArray) := by
  refine .fn (by simpa using h.len) fun j x hx => ?_
  rw [arr_getD]; exact h.at_ j x hx
theorem Rel.of_agg {ρ : Env} {cs : List AV} {V : Value} (h : Rel ρ (.agg cs) V) : ∃ vs : List Value, V = .agg vs.toArray ∧ RelL ρ cs vs := by
  cases h with
  | @agg _ vs hz h => exact ⟨vs.toList, by simp, by simpa using hz, fun j x hx => by rw [← arr_getD]; exact h j x hx⟩
theorem Rel.of_tup {ρ : Env} {cs : List AV} {V : Value} (h : Rel ρ (.tup cs) V) : ∃ vs : List Value, V = .tuple vs.toArray ∧ RelL ρ cs vs := by
  cases h with
  | @tup _ vs hz h => exact ⟨vs.toList, by simp, by simpa using hz, fun j x hx => by rw [← arr_getD]; exact h j x hx⟩
theorem Rel.of_fn {ρ : Env} {f : Nat} {cs : List AV} {V : Value} (h : Rel ρ (.fn f cs) V) : ∃ vs : List Value, V = .func (.func f) #[] vs.toArray ∧ RelL ρ cs vs := by
  cases h with
  | @fn _ _ vs hz h => exact ⟨vs.toList, by simp, by simpa using hz, fun j x hx => by rw [← arr_getD]; exact h j x hx⟩

/-- A value's cells. -/
theorem Rel.cells {ρ : Env} {v : AV} {V : Value} (h : Rel ρ v V) (hv : scals v.cells = true) : RelL ρ v.cells V.cells.toList := by
  cases h <;> first
    | (simp [AV.cells, scals, AV.scal] at hv; done)
    | (rename_i vs hz h; refine ⟨by simpa [AV.cells, Value.cells] using hz, fun j x hx => ?_⟩; rw [← arr_getD]; exact h j x hx)
    | (refine .cons ?_ .nil; first | exact .bool | exact .int | exact .nilp | exact .nils | exact .emp | exact .ro0 | exact .nilm | exact .nilf | (constructor <;> assumption))
theorem Rel.one {ρ : Env} {v : AV} {V : Value} (h : Rel ρ v V) (hv : v.scal = true) : V.oneCell' = true := by
  cases h <;> first | rfl | (simp [AV.scal] at hv; done)

end
end Go.Proofs.Ytgcciohenncplaa.Ai
