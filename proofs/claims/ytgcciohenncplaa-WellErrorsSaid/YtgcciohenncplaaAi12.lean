/- Memory: stores and appends. -/
import Derived.Test.YtgcciohenncplaaAi11
import Derived.Laws.AppendOwn
namespace Go.Proofs.Ytgcciohenncplaa.Ai
noncomputable section
open Go.RowKit (Below)

theorem OkW.heap {N : Nat} {ρ : Env} {s : AS} {w w' : World} (h : OkW N ρ s w) (e : w'.heap = w.heap) : OkW N ρ s w' :=
  ⟨fun id b hb => by obtain ⟨L, a1, a2, a3, a4⟩ := h.own id b hb; exact ⟨L, a1, a2, by rw [e]; exact a3, a4.world (by rw [e])⟩, h.inj, fun b o v hv => by rw [cell_world (w := w) (by rw [e])]; exact h.imm b o v hv, h.sep, h.new, by rw [e]; exact h.size⟩
/-- Less is known. -/
theorem OkW.kill {N : Nat} {ρ : Env} {s : AS} {w : World} (h : OkW N ρ s w) (id : Nat) : OkW N ρ { s with h := s.h.upd id none } w := by
  have key : ∀ i b, s.h.upd id none i = some b → s.h i = some b := by
    intro i b hb
    by_cases e : i = id
    · subst e; rw [upd_self] at hb; cases hb
    · rwa [upd_ne _ _ e] at hb
  have key2 : ∀ i, s.h.upd id none i ≠ none → s.h i ≠ none := by
    intro i hi hn
    obtain ⟨b, hb⟩ := Option.ne_none_iff_exists'.1 hi
    rw [key i b hb] at hn; cases hn
  exact ⟨fun i b hb => h.own i b (key i b hb), fun i j L M a b => h.inj i j L M (key2 i a) (key2 j b), h.imm, fun i L o a => h.sep i L o (key2 i a), h.new, h.size⟩

/-- A block of ours is written. -/
theorem put_ok {N : Nat} {ρ : Env} {s : AS} {w w' : World} (hw : OkW N ρ s w) {id : Nat} (hid : s.h id ≠ none) {L : Loc} (hL : ρ.loc id = some L) (hsz : w'.heap.size = w.heap.size) (hoth : ∀ k, k ≠ L.b → w'.heap[k]? = w.heap[k]?) {b' : Blk} (hblk : OkB ρ L w' b') :
    OkW N ρ { s with h := s.h.upd id (some b') } w' := by
  have key : ∀ i, s.h.upd id (some b') i ≠ none → s.h i ≠ none := by
    intro i hi
    by_cases e : i = id
    · subst e; exact hid
    · rwa [upd_ne _ _ e] at hi
  refine ⟨fun i b hb => ?_, fun i j M M' a b => hw.inj i j M M' (key i a) (key j b), fun b o v hv => ?_, fun i M o a => hw.sep i M o (key i a), hw.new, by rw [hsz]; exact hw.size⟩
  · by_cases e : i = id
    · subst e
      rw [show ({ s with h := s.h.upd i (some b') } : AS).h i = some b' from upd_self ..] at hb
      cases hb
      obtain ⟨b0, hb0⟩ := Option.ne_none_iff_exists'.1 hid
      obtain ⟨M, m1, m2, m3, _⟩ := hw.own i b0 hb0
      rw [hL] at m1; cases m1
      exact ⟨L, hL, m2, by rw [hsz]; exact m3, hblk⟩
    · rw [show ({ s with h := s.h.upd id (some b') } : AS).h i = s.h i from upd_ne _ _ e] at hb
      obtain ⟨M, m1, m2, m3, m4⟩ := hw.own i b hb
      refine ⟨M, m1, m2, by rw [hsz]; exact m3, m4.world (hoth _ fun q => e ?_)⟩
      exact hw.inj i id M L (by rw [hb]; simp) hid m1 hL q
  · have h0 := hw.imm b o v hv
    rw [cell_world (hoth b fun q => ?_)]; exact h0
    have := hw.sep id L o hid hL
    rw [← q, hv] at this; cases this

theorem blk_set {w : World} {g : Nat} {c : Array Value} {T : TypeId} (h : w.heap[g]? = some (.cells c T (0, 0))) (o : Nat) (v : Value) : (w.setCell ⟨g, o, none⟩ v).heap[g]? = some (.cells (c.setIfInBounds o v) T (0, 0)) := by
  simp [World.setCell, Array.getElem?_modify, h]
theorem setCells_far {g : Nat} : ∀ (vs : List Value) (o : Nat) {w : World} (k : Nat), k ≠ g → (w.setCells g o vs).heap[k]? = w.heap[k]?
  | [], _, _, _, _ => rfl
  | v :: r, o, w, k, hk => by
    rw [World.setCells, setCells_far r (o + 1) k hk]
    exact Below.heap_setCell w ⟨g, o, none⟩ v k hk
theorem setCells_same (g : Nat) : ∀ (vs : List Value) (o : Nat) (w : World), (w.setCells g o vs).os = w.os ∧ (w.setCells g o vs).tape = w.tape ∧ (w.setCells g o vs).output = w.output ∧ (w.setCells g o vs).heap.size = w.heap.size
  | [], _, _ => ⟨rfl, rfl, rfl, rfl⟩
  | v :: r, o, w => by
    obtain ⟨h1, h2, h3, h4⟩ := setCells_same g r (o + 1) (w.setCell ⟨g, o, none⟩ v)
    rw [World.setCells]
    exact ⟨h1, h2, h3, by rw [h4]; simp [World.setCell]⟩
theorem setCells_row {g : Nat} {e : TypeId} : ∀ (vs : List Value) (o : Nat) (w : World) (cur : Array Value), w.heap[g]? = some (.cells cur e (0, 0)) → o + vs.length ≤ cur.size →
    ∃ cur', (w.setCells g o vs).heap[g]? = some (.cells cur' e (0, 0)) ∧ cur'.size = cur.size ∧ cur'.toList = cur.toList.take o ++ vs ++ cur.toList.drop (o + vs.length)
  | [], o, w, cur, h, _ => ⟨cur, h, rfl, by simp⟩
  | v :: r, o, w, cur, h, hl => by
    have h2 := blk_set h o v
    simp only [List.length_cons] at hl
    obtain ⟨cur', h3, h4, h5⟩ := setCells_row r (o + 1) (w.setCell ⟨g, o, none⟩ v) _ h2 (by simp; omega)
    refine ⟨cur', h3, by rw [h4]; simp, ?_⟩
    rw [h5, Array.toList_setIfInBounds]
    have ho : o < cur.toList.length := by rw [Array.length_toList]; omega
    rw [List.take_set, List.drop_set_of_lt (by omega)]
    simp only [List.length_cons]
    rw [show o + 1 + r.length = o + (r.length + 1) by omega]
    congr 1
    rw [List.take_succ_eq_append_getElem ho, List.set_append_right _ _ (by rw [List.length_take]; omega)]
    have ho' : o < cur.size := by omega
    simp [Nat.min_eq_left (Nat.le_of_lt ho')]

theorem RelL.ones {ρ : Env} {cs : List AV} {vs : List Value} (h : RelL ρ cs vs) (hs : scals cs = true) : ∀ v ∈ vs, v.oneCell' = true := by
  intro v hv
  obtain ⟨j, hj, rfl⟩ := List.getElem_of_mem hv
  have hj' : j < cs.length := by rw [← h.len]; exact hj
  have h1 := h.at_ j _ (List.getElem?_eq_getElem hj')
  have : vs.getD j undef = vs[j] := by simp [List.getD_eq_getElem?_getD, hj]
  rw [this] at h1
  exact h1.one (scals_get hs (List.getElem?_eq_getElem hj'))

/-- Cells of a row of a block are written. -/
theorem cells_put {N : Nat} {ρ : Env} {s : AS} {w : World} (hw : OkW N ρ s w) {P : Program} {id : Nat} {rs : List (List AV)} (hrs : s.h id = some (.rows rs)) {L : Loc} (hL : ρ.loc id = some L) {i : Nat} {row : List AV} (hrow : rs[i]? = some row) {k : Nat} {cs : List AV} {vs : List Value} (hv : RelL ρ cs vs) (hs : scals cs = true) (hk : k + cs.length ≤ row.length) :
    ∃ w', (storeCells ⟨L.b, i * L.s + k, none⟩ vs).run P w = .ok () w' ∧ OkW N ρ { s with h := s.h.upd id (some (.rows (rs.set i (setCells row k cs)))) } w' ∧ Below N w w' := by
  obtain ⟨L', hL', hN, hlt, c, T, h1, h2, h3, h4, h5⟩ := hw.own id _ hrs
  rw [hL] at hL'; cases hL'
  have hi : i < rs.length := (List.getElem?_eq_some_iff.1 hrow).1
  have hrl := h4 i row hrow
  have hvl := hv.len
  have hfit : i * L.s + k + vs.length ≤ c.size := by
    have : (i + 1) * L.s ≤ L.cap * L.s := Nat.mul_le_mul_right _ (by omega)
    rw [Nat.add_mul] at this; omega
  have hone := hv.ones hs
  have hcell : ∀ j, j < vs.length → (w.cell? ⟨L.b, i * L.s + k + 0 + j, none⟩).isSome = true := by
    intro j hj
    have : i * L.s + k + 0 + j < c.size := by omega
    simp [World.cell?, h1]; omega
  have hfr : ∀ j, j < vs.length → w.frozen? ⟨L.b, i * L.s + k + 0 + j, none⟩ = false := by
    intro j hj; simp [World.frozen?, h1]
  have hrun := run_storeCells_cells (P := P) L.b (i * L.s + k) vs 0 w hcell hfr hone
  rw [Nat.add_zero] at hrun
  obtain ⟨c', g1, g2, g3⟩ := setCells_row vs (i * L.s + k) w c h1 hfit
  obtain ⟨e1, e2, e3, e4⟩ := setCells_same L.b vs (i * L.s + k) w
  refine ⟨_, hrun, put_ok hw (by rw [hrs]; simp) hL e4 (fun q hq => setCells_far vs _ q hq) ⟨c', T, g1, by rw [g2]; exact h2, by simpa using h3, ?_, ?_⟩, ⟨e1, e2, e3, by rw [e4]; exact Nat.le_refl _, fun q hq => setCells_far vs _ q (by omega)⟩⟩
  · intro j r hj
    rw [List.getElem?_set] at hj
    by_cases hij : i = j
    · subst hij
      rw [if_pos rfl, if_pos hi] at hj
      cases hj
      simp only [setCells, List.length_append, List.length_take, List.length_drop]; omega
    · rw [if_neg hij] at hj; exact h4 j r hj
  · intro j r q x hj hq
    rw [List.getElem?_set] at hj
    have hget : ∀ n, c'.getD n undef = (if n < i * L.s + k then c.getD n undef else if n < i * L.s + k + vs.length then vs.getD (n - (i * L.s + k)) undef else c.getD n undef) := by
      intro n
      rw [arr_getD, List.getD_eq_getElem?_getD, g3]
      have htl : (c.toList.take (i * L.s + k)).length = i * L.s + k := by rw [List.length_take, Array.length_toList]; omega
      split
      · rename_i hn
        rw [List.append_assoc, List.getElem?_append_left (by rw [htl]; exact hn), List.getElem?_take, if_pos hn, arr_getD, List.getD_eq_getElem?_getD]
      · rename_i hn
        split
        · rename_i hn2
          rw [List.append_assoc, List.getElem?_append_right (by rw [htl]; omega), htl, List.getElem?_append_left (by omega), List.getD_eq_getElem?_getD]
        · rename_i hn2
          rw [List.append_assoc, List.getElem?_append_right (by rw [htl]; omega), htl, List.getElem?_append_right (by omega), List.getElem?_drop, arr_getD, List.getD_eq_getElem?_getD]
          rw [show i * L.s + k + vs.length + (n - (i * L.s + k) - vs.length) = n by omega]
    by_cases hij : i = j
    · subst hij
      rw [if_pos rfl, if_pos hi] at hj
      cases hj
      rw [hget]
      unfold setCells at hq
      have htr : (row.take k).length = k := by rw [List.length_take]; omega
      by_cases q1 : q < k
      · rw [List.append_assoc, List.getElem?_append_left (by rw [htr]; exact q1), List.getElem?_take, if_pos q1] at hq
        rw [if_pos (by omega)]
        exact h5 i row q x hrow hq
      · by_cases q2 : q < k + cs.length
        · rw [List.append_assoc, List.getElem?_append_right (by rw [htr]; omega), htr, List.getElem?_append_left (by omega)] at hq
          rw [if_neg (by omega), if_pos (by omega), show i * L.s + q - (i * L.s + k) = q - k by omega]
          exact ⟨scals_get hs hq, hv.at_ _ x hq⟩
        · rw [List.append_assoc, List.getElem?_append_right (by rw [htr]; omega), htr, List.getElem?_append_right (by omega), List.getElem?_drop] at hq
          rw [show k + cs.length + (q - k - cs.length) = q by omega] at hq
          rw [if_neg (by omega), if_neg (by omega)]
          exact h5 i row q x hrow hq
    · rw [if_neg hij] at hj
      have hx := h5 j r q x hj hq
      have hq' : q < L.s := by rw [← h4 j r hj]; exact (List.getElem?_eq_some_iff.1 hq).1
      rw [hget]
      rcases Nat.lt_or_gt_of_ne hij with p | p
      · have : (i + 1) * L.s ≤ j * L.s := Nat.mul_le_mul_right _ p
        rw [Nat.add_mul] at this
        rw [if_neg (by omega), if_neg (by omega)]; exact hx
      · have : (j + 1) * L.s ≤ i * L.s := Nat.mul_le_mul_right _ p
        rw [Nat.add_mul] at this
        rw [if_pos (by omega)]; exact hx

section
variable {P : Program} {N : Nat} {ρ : Env} {F : Fr} {a : Act} {o : Oper} {v : AV} {s s' : AS} {w : World}

theorem e_store (hw : OkW N ρ s w) (hF : FrOk ρ F a) {t : TypeId} {sz : Nat} (hs : szT P t = some sz) {x y : Operand} {x' y' : Opd} (ho : o.op = .store t x y) (hx : cO x = some x') (hy : cO y = some y') {call : Nat → List AV → M AV} {aid : Nat} (hv : (EOp.store x' y' sz).ev call F aid s = some (v, s')) :
    ∃ w' , (execOp a.eval o).run P w = .ok .skip w' ∧ v = .tup [] ∧ OkW N ρ s' w' ∧ Below N w w' ∧ s'.n = s.n ∧ s'.lim = s.lim ∧ ∀ id, id < s.lim → s'.h id = s.h id := by
  have h1 := hF.ev hx; have h2 := hF.ev hy
  simp only [EOp.ev] at hv
  split at hv
  case h_2 => cases hv
  rename_i id i k e; rw [e] at h1
  split at hv
  case h_2 => cases hv
  rename_i rs hrs
  split at hv
  case h_2 => cases hv
  rename_i row hrow
  split at hv
  case isFalse => cases hv
  rename_i hc
  simp only [Option.some.injEq, Prod.mk.injEq] at hv
  obtain ⟨rfl, rfl⟩ := hv
  obtain ⟨c1, c2, c3, c4⟩ := hc
  generalize hX : a.eval x = X at h1
  cases h1 with
  | @ptr _ _ _ L hL =>
    have hcells := h2.cells c3
    obtain ⟨w', r1, r2, r3⟩ := cells_put (P := P) hw hrs hL hrow hcells c3 (by rw [c1]; exact c2)
    have hlen : (a.eval y).cells.size = sz := by have := hcells.len; simp at this; omega
    refine ⟨w', ?_, rfl, r2, r3, rfl, rfl, fun j hj => upd_ne _ _ fun q => ?_⟩
    · simp [execOp, ho, hX, Instr.storeAt, Instr.sureAddr, storeVar, run_sizeOf' hs, hlen, r1]
    · have := Nat.le_of_ble_eq_true c4
      omega
end
end
end Go.Proofs.Ytgcciohenncplaa.Ai
