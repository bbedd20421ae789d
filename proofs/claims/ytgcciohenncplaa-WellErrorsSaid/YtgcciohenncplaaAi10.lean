/- Memory: blocks that are made. -/
import Derived.Test.YtgcciohenncplaaAi9
namespace Go.Proofs.Ytgcciohenncplaa.Ai
noncomputable section
open Go.RowKit (Below)

/-- Rows, one behind the other, as cells. -/
structure Flat (ρ : Env) (s : Nat) (rs : List (List AV)) (cs : List Value) : Prop where
  len : cs.length = rs.length * s
  row : ∀ (i : Nat) row, rs[i]? = some row → row.length = s
  cell : ∀ (i : Nat) row (k : Nat) x, rs[i]? = some row → row[k]? = some x → x.scal = true ∧ Rel ρ x (cs.getD (i * s + k) undef)

theorem scals_get {l : List AV} (h : scals l = true) {k : Nat} {x : AV} (hk : l[k]? = some x) : x.scal = true :=
  List.all_eq_true.1 h x (List.mem_of_getElem? hk)

theorem Flat.one {ρ : Env} {row : List AV} {cs : List Value} (h : RelL ρ row cs) (hs : scals row = true) : Flat ρ row.length [row] cs := by
  refine ⟨by simp [h.len], fun i r hi => ?_, fun i r k x hi hk => ?_⟩
  · cases i with
    | zero => simp at hi; rw [hi]
    | succ i => simp at hi
  · cases i with
    | zero => simp at hi; subst hi; exact ⟨scals_get hs hk, by simpa using h.at_ k x hk⟩
    | succ i => simp at hi

theorem Flat.rep {ρ : Env} {z : List AV} {cs : List Value} (h : RelL ρ z cs) (hs : scals z = true) : ∀ n, Flat ρ z.length (List.replicate n z) (List.replicate n cs).flatten
  | 0 => ⟨by simp, fun i r hi => by simp at hi, fun i r k x hi => by simp at hi⟩
  | n + 1 => by
    have ih := Flat.rep h hs n
    refine ⟨?_, fun i r hi => ?_, fun i r k x hi hk => ?_⟩
    · rw [List.replicate_succ, List.flatten_cons, List.length_append, ih.len, h.len]
      simp [Nat.add_mul, Nat.add_comm]
    · rw [List.getElem?_replicate] at hi
      split at hi
      · cases hi; rfl
      · cases hi
    · rw [List.replicate_succ, List.flatten_cons, List.getD_eq_getElem?_getD]
      cases i with
      | zero =>
        simp [List.replicate_succ] at hi; subst hi
        have hlt : k < cs.length := by rw [h.len]; exact (List.getElem?_eq_some_iff.1 hk).1
        refine ⟨scals_get hs hk, ?_⟩
        rw [Nat.zero_mul, Nat.zero_add, List.getElem?_append_left hlt]
        have := h.at_ k x hk
        rwa [List.getD_eq_getElem?_getD] at this
      | succ i =>
        rw [List.replicate_succ, List.getElem?_cons_succ] at hi
        have := ih.cell i r k x hi hk
        refine ⟨this.1, ?_⟩
        rw [List.getElem?_append_right (by rw [h.len, Nat.add_mul]; omega), h.len, show (i + 1) * z.length + k - z.length = i * z.length + k by rw [Nat.add_mul]; omega]
        have := this.2
        rwa [List.getD_eq_getElem?_getD] at this

/-- A row is written. -/
theorem Flat.put {ρ : Env} {s : Nat} {rs : List (List AV)} {cs : List Value} (h : Flat ρ s rs cs) {i : Nat} {row new : List AV} (hi : rs[i]? = some row) {us : List Value} (hn : RelL ρ new us) (hs : scals new = true) (hl : new.length = s) :
    Flat ρ s (rs.set i new) (cs.take (i * s) ++ us ++ cs.drop (i * s + s)) := by
  have hlt := (List.getElem?_eq_some_iff.1 hi).1
  have hle : (i + 1) * s ≤ rs.length * s := Nat.mul_le_mul_right s hlt
  rw [Nat.add_mul] at hle
  have hul : us.length = s := by rw [hn.len, hl]
  have htl : (cs.take (i * s)).length = i * s := by rw [List.length_take, h.len]; omega
  have hcl := h.len
  refine ⟨?_, fun j r hj => ?_, fun j r k x hj hk => ?_⟩
  · rw [List.length_append, List.length_append, htl, hul, List.length_drop, List.length_set, hcl]; omega
  · rw [List.getElem?_set] at hj
    by_cases hij : i = j
    · subst hij
      rw [if_pos rfl, if_pos hlt] at hj
      cases hj; exact hl
    · rw [if_neg hij] at hj; exact h.row j r hj
  · rw [List.getElem?_set] at hj
    rw [List.getD_eq_getElem?_getD]
    by_cases hij : i = j
    · subst hij
      rw [if_pos rfl, if_pos hlt] at hj
      cases hj
      have hk' : k < s := by rw [← hl]; exact (List.getElem?_eq_some_iff.1 hk).1
      refine ⟨scals_get hs hk, ?_⟩
      rw [List.append_assoc, List.getElem?_append_right (by rw [htl]; omega), htl, List.getElem?_append_left (by rw [hul]; omega)]
      rw [show i * s + k - i * s = k by omega]
      have := hn.at_ k x hk
      rwa [List.getD_eq_getElem?_getD] at this
    · rw [if_neg hij] at hj
      have hc := h.cell j r k x hj hk
      have hk' : k < s := by rw [← h.row j r hj]; exact (List.getElem?_eq_some_iff.1 hk).1
      have hjl := (List.getElem?_eq_some_iff.1 hj).1
      refine ⟨hc.1, ?_⟩
      have hc2 := hc.2
      rw [List.getD_eq_getElem?_getD] at hc2
      rcases Nat.lt_or_gt_of_ne hij with q | q
      · have : (i + 1) * s ≤ j * s := Nat.mul_le_mul_right s q
        rw [Nat.add_mul] at this
        rw [List.append_assoc, List.getElem?_append_right (by rw [htl]; omega), htl, List.getElem?_append_right (by rw [hul]; omega), hul, List.getElem?_drop]
        rw [show i * s + s + (j * s + k - i * s - s) = j * s + k by omega]; exact hc2
      · have : (j + 1) * s ≤ i * s := Nat.mul_le_mul_right s q
        rw [Nat.add_mul] at this
        rw [List.append_assoc, List.getElem?_append_left (by rw [htl]; omega), List.getElem?_take, if_pos (by omega)]
        exact hc2

theorem fillRows_ok {ρ : Env} {s : Nat} : ∀ (ps : List (Nat × AV)) (qs : List (Nat × Value)) (rs r : List (List AV)) (cs : List Value), fillRows rs ps = some r → Flat ρ s rs cs →
    qs.length = ps.length → (∀ (j : Nat) p, ps[j]? = some p → ∃ q, qs[j]? = some q ∧ q.1 = p.1 ∧ Rel ρ p.2 q.2) →
    ∃ us, Instr.fill (fun i => some (i * s, s)) cs.toArray qs = some us.toArray ∧ Flat ρ s r us ∧ r.length = rs.length
  | [], [], rs, r, cs, h, hr, _, _ => by
    simp only [fillRows, Option.some.injEq] at h
    subst h
    exact ⟨cs, rfl, hr, rfl⟩
  | (i, v) :: ps, (i', V) :: qs, rs, r, cs, h, hr, hl, hp => by
    unfold fillRows at h
    split at h
    case h_2 => cases h
    rename_i row hrow
    split at h
    case isFalse => cases h
    rename_i hc
    obtain ⟨q, hq, hpl, hv0⟩ := hp 0 _ rfl
    simp only [List.getElem?_cons_zero, Option.some.injEq] at hq
    subst hq
    simp only at hpl hv0
    subst hpl
    have hv := hv0.cells hc.2
    have hvs : v.cells.length = s := by rw [hc.1]; exact hr.row _ row hrow
    have hvl : V.cells.size = s := by have := hv.len; simp at this; omega
    have hlt := (List.getElem?_eq_some_iff.1 hrow).1
    have hle : (i' + 1) * s ≤ rs.length * s := Nat.mul_le_mul_right s hlt
    rw [Nat.add_mul] at hle
    have hset := fold_set (i' * s) V.cells.toList 0 cs (by simp [hr.len]; omega)
    simp only [Nat.add_zero, Array.length_toList, hvl] at hset
    obtain ⟨us, hu, hur, hrl⟩ := fillRows_ok ps qs _ r _ h (hr.put hrow hv hc.2 hvs) (by simpa using hl) (fun j p hj => by obtain ⟨q, a, b⟩ := hp (j + 1) p hj; exact ⟨q, a, b⟩)
    refine ⟨us, ?_, hur, by simpa using hrl⟩
    unfold Instr.fill
    simp only
    rw [if_neg (by simp [hr.len]; omega), ← hu]
    congr 1
    rw [← Array.foldl_toList, Array.toList_zipIdx]
    exact hset

end
end Go.Proofs.Ytgcciohenncplaa.Ai
