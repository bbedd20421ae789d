/- Memory: what is known of it, and readings. -/
import Derived.Test.YtgcciohenncplaaAi8
namespace Go.Proofs.Ytgcciohenncplaa.Ai
noncomputable section
open Go.RowKit (Below)

/-- What is known of one block. -/
def OkB (ρ : Env) (L : Loc) (w : World) : Blk → Prop
  | .rows rs => ∃ c T, w.heap[L.b]? = some (.cells c T (0, 0)) ∧ c.size = L.cap * L.s ∧ rs.length ≤ L.cap ∧ (∀ (i : Nat) row, rs[i]? = some row → row.length = L.s) ∧
      ∀ (i : Nat) row (k : Nat) x, rs[i]? = some row → row[k]? = some x → x.scal = true ∧ Rel ρ x (c.getD (i * L.s + k) undef)
  | .map es => ∃ ents clock, w.heap[L.b]? = some (.map ents clock) ∧ ents.size = es.length ∧ clock = ents.size ∧
      ∀ (j : Nat) e, es[j]? = some e → ∃ E, ents.toList[j]? = some E ∧ Rel ρ e.1 E.key ∧ Rel ρ e.2 E.val ∧ E.born = j
  | .bld => ∃ c, w.heap[L.b]? = some (.cells c bT (0, 0)) ∧ L.s = 2 ∧ L.cap = 1 ∧ RelL ρ [.nilp, .nils] c.toList
  | .buf l => ∃ c fz, w.heap[L.b]? = some (.cells c uT fz) ∧ L.s = 1 ∧ c.size = L.cap ∧ l.length ≤ L.cap ∧ fz.2 ≤ l.length ∧ ∀ (j : Nat) x, l[j]? = some x → c.toList[j]? = some (.int .u8 x.toNat)

structure OkW (N : Nat) (ρ : Env) (s : AS) (w : World) : Prop where
  own : ∀ id blk, s.h id = some blk → ∃ L, ρ.loc id = some L ∧ N ≤ L.b ∧ L.b < w.heap.size ∧ OkB ρ L w blk
  inj : ∀ id id' L L', s.h id ≠ none → s.h id' ≠ none → ρ.loc id = some L → ρ.loc id' = some L' → L.b = L'.b → id = id'
  imm : ∀ b o v, ρ.imm b o = some v → w.cell? ⟨b, o, none⟩ = some v
  sep : ∀ id L o, s.h id ≠ none → ρ.loc id = some L → ρ.imm L.b o = none
  new : ∀ id, s.n ≤ id → ρ.loc id = none
  size : N ≤ w.heap.size

theorem OkB.mono {ρ ρ' : Env} (hx : Ext ρ ρ') {L : Loc} {w : World} {b : Blk} (h : OkB ρ L w b) : OkB ρ' L w b := by
  cases b with
  | rows rs =>
    obtain ⟨c, T, h1, h2, h3, h4, h5⟩ := h
    exact ⟨c, T, h1, h2, h3, h4, fun i row k x a b => ⟨(h5 i row k x a b).1, (h5 i row k x a b).2.mono hx⟩⟩
  | map es =>
    obtain ⟨c, T, h1, h2, h2', h3⟩ := h
    exact ⟨c, T, h1, h2, h2', fun i e a => by obtain ⟨E, g1, g2, g3, g4⟩ := h3 i e a; exact ⟨E, g1, g2.mono hx, g3.mono hx, g4⟩⟩
  | bld =>
    obtain ⟨c, h1, h2, h3, h4⟩ := h
    exact ⟨c, h1, h2, h3, h4.mono hx⟩
  | buf l => exact h

theorem mul_lt {i k s cap : Nat} (hi : i < cap) (hk : k < s) : i * s + k < cap * s := by
  have : (i + 1) * s ≤ cap * s := Nat.mul_le_mul_right s hi
  rw [Nat.add_mul] at this; omega

section
variable {P : Program} {N : Nat} {ρ : Env} {F : Fr} {a : Act} {o : Oper} {v : AV} {s : AS} {w : World}

/-- A cell of a block of ours. -/
theorem OkW.cell (h : OkW N ρ s w) {id : Nat} {rs : List (List AV)} (hb : s.h id = some (.rows rs)) {L : Loc} (hL : ρ.loc id = some L) {i : Nat} {row : List AV} (hr : rs[i]? = some row) :
    row.length = L.s ∧ ∃ d : Nat → Value, ∀ k x, row[k]? = some x → x.scal = true ∧ Rel ρ x (d k) ∧ w.cell? ⟨L.b, i * L.s + k, none⟩ = some (d k) := by
  obtain ⟨L', hL', _, _, c, T, h1, h2, h3, h4, h5⟩ := h.own id _ hb
  rw [hL] at hL'; cases hL'
  have hi : i < L.cap := Nat.lt_of_lt_of_le (List.getElem?_eq_some_iff.1 hr).1 h3
  refine ⟨h4 i row hr, fun k => c.getD (i * L.s + k) undef, fun k x hx => ?_⟩
  have hk : k < L.s := by rw [← h4 i row hr]; exact (List.getElem?_eq_some_iff.1 hx).1
  have := mul_lt hi hk
  obtain ⟨g1, g2⟩ := h5 i row k x hr hx
  refine ⟨g1, g2, ?_⟩
  simp [World.cell?, h1, Array.getD_eq_getD_getElem?, Array.getElem?_eq_getElem (show i * L.s + k < c.size by omega)]

theorem add_addr (b n j : Nat) : (⟨b, n, none⟩ : Addr).add j = ⟨b, n + j, none⟩ := by unfold Addr.add; split <;> simp_all

theorem loadCells_run {b n : Nat} {d : Nat → Value} : ∀ (m i : Nat) (acc : Array Value), (∀ j, j < m → w.cell? ⟨b, n + (i + j), none⟩ = some (d (i + j))) → (loadCellsFrom ⟨b, n, none⟩ i m acc).run P w = .ok (acc ++ ((List.range' i m).map d).toArray) w
  | 0, i, acc, _ => by simp [loadCellsFrom]
  | m + 1, i, acc, h => by
    have h0 := h 0 (by omega)
    rw [Nat.add_zero] at h0
    simp only [loadCellsFrom, Sem.run_bind, add_addr, run_load, h0, Result.andThen_ok]
    rw [loadCells_run m (i + 1) (acc.push (d i)) (fun j hj => by have := h (j + 1) (by omega); rwa [show i + 1 + j = i + (j + 1) by omega])]
    congr 1
    apply Array.ext'
    simp [List.range'_succ]

theorem load_run {t : TypeId} {ag : Bool} {sz : Nat} (hg : isRowT P t = some ag) (hs : szT P t = some sz) {b n : Nat} {d : Nat → Value} {cs : List AV} {k : Nat} (hv : takeRow ag sz k cs = some v)
    (hr : ∀ j x, cs[j]? = some x → Rel ρ x (d j) ∧ w.cell? ⟨b, n + j, none⟩ = some (d j)) : ∃ V, Rel ρ v V ∧ (Instr.loadAt t (.pointer (some ⟨b, n + k, none⟩))).run P w = .ok V w := by
  unfold takeRow at hv
  cases ag with
  | true =>
    simp only [if_true] at hv
    split at hv
    case isFalse => cases hv
    rename_i hle
    cases hv
    have hl := loadCells_run (P := P) (w := w) (b := b) (n := n + k) (d := fun j => d (k + j)) sz 0 #[] (fun j hj => by
      have hlt : k + j < cs.length := by omega
      have := (hr (k + j) _ (List.getElem?_eq_getElem hlt)).2
      rw [Nat.zero_add, show n + k + j = n + (k + j) by omega]; exact this)
    refine ⟨.agg ((List.range sz).map fun j => d (k + j)).toArray, Rel.agg' ⟨by simp; omega, fun j x hx => ?_⟩, ?_⟩
    · rw [List.getElem?_take] at hx
      split at hx
      case isFalse => cases hx
      rename_i hj
      rw [List.getElem?_drop] at hx
      have := (hr _ x hx).1
      simpa [List.getD_eq_getElem?_getD, List.getElem?_map, List.getElem?_range hj] using this
    · simp only [Instr.loadAt, Instr.sureAddr, Sem.run_bind, Sem.run_pure, Result.andThen_ok, loadVar, run_isAgg' hg, if_true, run_sizeOf' hs, loadCells, hl]
      simp [List.range_eq_range']
  | false =>
    simp only [Bool.false_eq_true, if_false] at hv
    obtain ⟨h1, h2⟩ := hr k v hv
    exact ⟨d k, h1, by simp [Instr.loadAt, Instr.sureAddr, loadVar, run_isAgg' hg, h2]⟩

theorem r_load (hw : OkW N ρ s w) (hF : FrOk ρ F a) {t : TypeId} {ag : Bool} {sz : Nat} (hg : isRowT P t = some ag) (hs : szT P t = some sz) {x : Operand} {x' : Opd} (ho : o.op = .load t x) (hx : cO x = some x') (hv : (ROp.load ag sz x').ev F s.h = some v) : ∃ V, Rel ρ v V ∧ (execOp a.eval o).run P w = .ok (.value V) w := by
  have h1 := hF.ev hx
  have ex : ∀ V, (Instr.loadAt t (a.eval x)).run P w = .ok V w → (execOp a.eval o).run P w = .ok (.value V) w := by
    intro V hr
    simp [execOp, ho, hr]
  simp only [ROp.ev] at hv
  split at hv
  · rename_i id i k e; rw [e] at h1
    split at hv
    case h_2 => cases hv
    rename_i rs hrs
    split at hv
    case h_2 => cases hv
    rename_i row hrow
    generalize hX : a.eval x = X at h1 ex
    cases h1 with
    | @ptr _ _ _ L hL =>
      obtain ⟨_, d, hd⟩ := hw.cell hrs hL hrow
      obtain ⟨V, hr, hl⟩ := load_run hg hs hv (fun j x hx => ⟨(hd j x hx).2.1, (hd j x hx).2.2⟩)
      exact ⟨V, hr, ex _ hl⟩
  · rename_i row k e; rw [e] at h1
    generalize hX : a.eval x = X at h1 ex
    cases h1 with
    | @rptr _ _ b o' c hi hr =>
      obtain ⟨V, hr, hl⟩ := load_run hg hs hv (fun j x hx => ⟨hr j x hx, hw.imm _ _ _ (hi j (List.getElem?_eq_some_iff.1 hx).1)⟩)
      exact ⟨V, hr, ex _ hl⟩
  · cases hv
end
end
end Go.Proofs.Ytgcciohenncplaa.Ai
