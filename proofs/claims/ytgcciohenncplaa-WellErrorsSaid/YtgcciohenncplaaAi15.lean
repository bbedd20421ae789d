/- Memory: append, all of it. -/
import Derived.Test.YtgcciohenncplaaAi14
namespace Go.Proofs.Ytgcciohenncplaa.Ai
noncomputable section
open Go.RowKit (Below)

theorem flat_app {ρ : Env} {s : Nat} {r1 r2 : List (List AV)} {c1 c2 : List Value} (h1 : Flat ρ s r1 c1) (h2 : Flat ρ s r2 c2) : Flat ρ s (r1 ++ r2) (c1 ++ c2) := by
  have l1 := h1.len
  refine ⟨by simp [h1.len, h2.len, Nat.add_mul], fun i row hi => ?_, fun i row k x hi hk => ?_⟩
  · rcases List.mem_append.1 (List.mem_of_getElem? hi) with q | q
    · obtain ⟨j, hj, rfl⟩ := List.getElem_of_mem q; exact h1.row j _ (List.getElem?_eq_getElem hj)
    · obtain ⟨j, hj, rfl⟩ := List.getElem_of_mem q; exact h2.row j _ (List.getElem?_eq_getElem hj)
  · rw [List.getD_eq_getElem?_getD]
    by_cases q : i < r1.length
    · rw [List.getElem?_append_left q] at hi
      have hk' : k < s := by rw [← h1.row _ row hi]; exact (List.getElem?_eq_some_iff.1 hk).1
      rw [List.getElem?_append_left (by rw [l1]; exact mul_lt q hk'), ← List.getD_eq_getElem?_getD]
      exact h1.cell i row k x hi hk
    · rw [List.getElem?_append_right (by omega)] at hi
      have hsub : i * s = r1.length * s + (i - r1.length) * s := by rw [← Nat.add_mul]; congr 1; omega
      rw [List.getElem?_append_right (by omega), l1, show i * s + k - r1.length * s = (i - r1.length) * s + k by omega, ← List.getD_eq_getElem?_getD]
      exact h2.cell _ row k x hi hk

theorem okB_spare {ρ : Env} {L : Loc} {w : World} {rs : List (List AV)} {cs : List Value} {spare : Array Value} {T : TypeId} (hf : Flat ρ L.s rs cs) (hcap : rs.length ≤ L.cap) (hsz : cs.length + spare.size = L.cap * L.s) (hh : w.heap[L.b]? = some (.cells (cs.toArray ++ spare) T (0, 0))) : OkB ρ L w (.rows rs) := by
  refine ⟨_, T, hh, by simpa using hsz, hcap, hf.row, fun i row k x h1 h2 => ?_⟩
  obtain ⟨a, b⟩ := hf.cell i row k x h1 h2
  refine ⟨a, ?_⟩
  have hk : k < L.s := by rw [← hf.row i row h1]; exact (List.getElem?_eq_some_iff.1 h2).1
  have hlt : i * L.s + k < cs.length := by rw [hf.len]; exact mul_lt (List.getElem?_eq_some_iff.1 h1).1 hk
  rw [arr_getD, Array.toList_append, List.getD_eq_getElem?_getD, List.getElem?_append_left hlt, ← List.getD_eq_getElem?_getD]
  exact b

/-- What an append's element type must be. -/
structure AppT (P : Program) (t : TypeId) (sz bytes : Nat) : Prop where
  ex : ∃ e i z, P.underlying t = some (.slice e) ∧ P.info? e = some i ∧ i.zero = some z ∧ i.size = sz ∧ i.bytes = bytes ∧ z.cells.size = sz ∧ 0 < sz

section
variable {P : Program} {N : Nat} {ρ : Env} {F : Fr} {a : Act} {o : Oper} {v : AV} {s s' : AS} {w : World}

/-- A new array. -/
theorem grow_ok (hw : OkW N ρ s w) {sz : Nat} {rows : List (List AV)} {cs : List Value} (hf : Flat ρ sz rows cs) {z : Array Value} (hz : z.size = sz) {cap : Nat} (hcap : rows.length ≤ cap) {e : TypeId} {aid : Nat} (hlt : aid < s.n) (hnew : ρ.loc aid = none) :
    ∃ ρ' w', w' = w.drew.alloc (.cells (cs.toArray ++ Builtin.zeroCells z (cap - rows.length)) e) ∧ Done P N ρ w (.sl aid 0 rows.length sz false) { s with h := s.h.upd aid (some (.rows rows)) } (fun id => id = aid) (.slice (some ⟨w.heap.size, 0, none⟩) rows.length cap) w' ρ' := by
  let L : Loc := ⟨w.heap.size, sz, cap⟩
  have hx := Env.put_ext (L := L) hnew
  have hw' : OkW N ρ s w.drew := hw.heap rfl
  have hfx : Flat (ρ.put aid L) sz rows cs := ⟨hf.len, hf.row, fun i row k x h1 h2 => ⟨(hf.cell i row k x h1 h2).1, (hf.cell i row k x h1 h2).2.mono hx⟩⟩
  have hl := hf.len
  have hspare : cs.length + (Builtin.zeroCells z (cap - rows.length)).size = cap * sz := by
    rw [size_zeroCells, hz, hl, ← Nat.add_mul]; congr 1; omega
  refine ⟨ρ.put aid L, _, rfl, hx, ?_, ?_, ((Below.refl _ _).drew).alloc hw.size _, fun id hid => Env.put_ne hid⟩
  · have := Rel.sl (ρ := ρ.put aid L) (id := aid) (i := 0) (n := rows.length) (rc := cap) (t := false) (L := L) Env.put_self hcap (fun q => by cases q) (fun _ => by simp [L])
    simpa using this
  · exact new_ok (L := L) hw' hlt hnew rfl (okB_spare (L := L) hfx hcap hspare (heap_last w.drew _))

theorem e_append (hw : OkW N ρ s w) (hF : FrOk ρ F a) {t tx : TypeId} {sz bytes : Nat} (ht : AppT P t sz bytes) (hk : (∃ e', P.underlying tx = some (.slice e')) ∨ P.underlying tx = some .string) {x y : Operand} {x' y' : Opd} {c : Call} (ho : o.op = .call c) (hcb : c.callee = .builtin .append) (hct : c.argTypes = #[t, tx]) (hca : c.args = #[x, y]) (hx : cO x = some x') (hy : cO y = some y') {call : Nat → List AV → M AV} {aid : Nat} (hlt : aid < s.n) (hnew : ρ.loc aid = none) (hlim : s.lim ≤ aid)
    (hv : (EOp.append sz bytes x' y').ev call F aid s = some (v, s')) :
    ∃ V w' ρ', (execOp a.eval o).run P w = .ok (.value V) w' ∧ Done P N ρ w v s' (fun id => id = aid) V w' ρ' ∧ s'.n = s.n ∧ s'.lim = s.lim ∧ ∀ id, id < s.lim → s'.h id = s.h id := by
  obtain ⟨e, i, z, hu, hi, hz, his, hib, hzs, hpos⟩ := ht.ex
  have h1 := hF.ev hx; have h2 := hF.ev hy
  have run : ∀ V w', (Builtin.append_ #[t, tx] o.type #[a.eval x, a.eval y]).run P w = .ok V w' → (execOp a.eval o).run P w = .ok (.value V) w' := by
    intro V w' h
    simp [execOp, ho, resolve, hcb, invoke, builtin, hca, hct, h]
  simp only [EOp.ev] at hv
  split at hv
  case h_1 => cases hv
  rename_i new hnewr
  split at hv
  case isFalse => cases hv
  rename_i hall
  obtain ⟨news, hfl, hsrc⟩ := src_any (P := P) hw h2 hnewr hall
  have hS := hsrc tx hk
  have hnl := hfl.len
  generalize a.eval y = Y at run hS
  rw [← his] at hS
  have quiet0 : ∀ V w' ρ' st, (execOp a.eval o).run P w = .ok (.value V) w' → Done P N ρ w v st (fun id => id = aid) V w' ρ' → st = s' → s'.n = s.n → s'.lim = s.lim → (∀ id, id < s.lim → s'.h id = s.h id) → ∃ V w' ρ', (execOp a.eval o).run P w = .ok (.value V) w' ∧ Done P N ρ w v s' (fun id => id = aid) V w' ρ' ∧ s'.n = s.n ∧ s'.lim = s.lim ∧ ∀ id, id < s.lim → s'.h id = s.h id := by
    rintro V w' ρ' st r d rfl e1 e2 e3
    exact ⟨V, w', ρ', r, d, e1, e2, e3⟩
  generalize hX : a.eval x = X at h1 run
  split at hv
  · -- nil
    rename_i ex; rw [ex] at h1
    cases h1
    split at hv
    · rename_i hn
      simp only [Option.some.injEq, Prod.mk.injEq] at hv
      obtain ⟨rfl, rfl⟩ := hv
      rw [hn] at hS
      exact ⟨_, w, ρ, run _ _ (append_none_run hu hi hS), ⟨Ext.refl _, .nils, hw, Below.refl _ _, fun _ _ => rfl⟩, rfl, rfl, fun _ _ => rfl⟩
    · split at hv
      case isFalse => cases hv
      rename_i hn hb
      simp only [Option.some.injEq, Prod.mk.injEq] at hv
      obtain ⟨rfl, rfl⟩ := hv
      have hr := Go.run_append_grow_src w t tx o.type e i z hu hi hz none 0 0 [] (run_firstCells_none (P := P) w.drew i.size 0 0 0) Y new.length news hS (by omega) (by omega) (growslice_fits (by omega) (by rw [hib, Nat.zero_add]; omega))
      obtain ⟨ρ', w', rfl, hd⟩ := grow_ok (P := P) hw hfl hzs (cap := grownCap w (0 + new.length) 0 e) (by have := grownCap_ge w (0 + new.length) 0 e; omega) (e := e) hlt hnew
      refine ⟨_, _, ρ', run _ _ ?_, hd, rfl, rfl, fun j hj => upd_ne _ _ (by omega)⟩
      rw [hr]
      simp
  · -- empty
    rename_i ex; rw [ex] at h1
    cases h1 with
    | @emp ad0 =>
      split at hv
      · rename_i hn
        simp only [Option.some.injEq, Prod.mk.injEq] at hv
        obtain ⟨rfl, rfl⟩ := hv
        rw [hn] at hS
        exact ⟨_, w, ρ, run _ _ (append_none_run hu hi hS), ⟨Ext.refl _, .emp, hw, Below.refl _ _, fun _ _ => rfl⟩, rfl, rfl, fun _ _ => rfl⟩
      · split at hv
        case isFalse => cases hv
        rename_i hn hb
        simp only [Option.some.injEq, Prod.mk.injEq] at hv
        obtain ⟨rfl, rfl⟩ := hv
        have hr := Go.run_append_grow_src w t tx o.type e i z hu hi hz (some ad0) 0 0 [] (by simp [Builtin.firstCells, loadCells, loadCellsFrom]) Y new.length news hS (by omega) (by omega) (growslice_fits (by omega) (by rw [hib, Nat.zero_add]; omega))
        obtain ⟨ρ', w', rfl, hd⟩ := grow_ok (P := P) hw hfl hzs (cap := grownCap w (0 + new.length) 0 e) (by have := grownCap_ge w (0 + new.length) 0 e; omega) (e := e) hlt hnew
        refine ⟨_, _, ρ', run _ _ ?_, hd, rfl, rfl, fun j hj => upd_ne _ _ (by omega)⟩
        rw [hr]
        simp
  · -- a slice of ours
    rename_i id i0 n zz tt ex; rw [ex] at h1
    split at hv
    case h_2 => cases hv
    rename_i rs hrs
    split at hv
    case isFalse => cases hv
    rename_i hc
    obtain ⟨rfl, c2, c4, c5, c6, rfl, rfl⟩ := hc
    have c4' := Nat.le_of_ble_eq_true c4
    cases h1 with
    | sl hL hn htt hff =>
      rename_i rc L
      have hid : s.h id ≠ none := by rw [hrs]; simp
      obtain ⟨L', hL', hNL, hLlt, hok⟩ := hw.own id _ hrs
      rw [hL] at hL'; cases hL'
      have hrc := hff rfl
      rw [Nat.zero_add] at hrc
      have haid : aid ≠ id := fun q => by rw [q, hL] at hnew; cases hnew
      have inpl : n + new.length ≤ rc → ∃ c T, w.heap[L.b]? = some (.cells c T (0, 0)) ∧ (Builtin.append_ #[t, tx] o.type #[.slice (some ⟨L.b, 0 * L.s, none⟩) n rc, Y]).run P w = .ok (.slice (some ⟨L.b, 0, none⟩) (n + new.length) rc) (w.setCells L.b (n * L.s) news) ∧ OkB ρ L (w.setCells L.b (n * L.s) news) (.rows (rs.take n ++ new ++ rs.drop (n + new.length))) := by
        intro hroom
        obtain ⟨c, T, g1, g2, g3⟩ := rows_put hok c2 hfl (by omega)
        obtain ⟨c', k1, k2, k3⟩ := setCells_row news (n * L.s) w c g1 g2
        refine ⟨c, T, g1, ?_, g3 _ c' k1 k2 k3⟩
        have := append_room_run (ty := o.type) hu hi g1 hS hroom (by rw [his]; exact g2)
        rw [his] at this
        rw [Nat.zero_mul]; exact this
      split at hv
      · rename_i hfit
        simp only [Option.some.injEq, Prod.mk.injEq] at hv
        obtain ⟨rfl, rfl⟩ := hv
        have hcl : n + new.length ≤ rc := by
          obtain ⟨c, T, _, _, h3, _⟩ := hok
          omega
        obtain ⟨c, T, g1, g2, g3⟩ := inpl hcl
        obtain ⟨k1, k2, k3, k4⟩ := setCells_same L.b news (n * L.s) w
        refine ⟨_, _, ρ, run _ _ g2, ⟨Ext.refl _, ?_, put_ok hw hid hL k4 (fun q hq => setCells_far news _ q hq) g3, ⟨k1, k2, k3, by rw [k4]; exact Nat.le_refl _, fun q hq => setCells_far news _ q (by omega)⟩, fun _ _ => rfl⟩, rfl, rfl, fun j hj => upd_ne _ _ (by omega)⟩
        have := Rel.sl (ρ := ρ) (id := id) (i := 0) (n := n + new.length) (rc := rc) (t := false) hL hcl (fun q => by cases q) (fun _ => by omega)
        simpa using this
      · rename_i hfit
        simp only [Option.some.injEq, Prod.mk.injEq] at hv
        obtain ⟨rfl, rfl⟩ := hv
        have hdrop : rs.drop (n + new.length) = [] := List.drop_of_length_le (by omega)
        by_cases hroom : n + new.length ≤ rc
        · obtain ⟨c, T, g1, g2, g3⟩ := inpl hroom
          obtain ⟨k1, k2, k3, k4⟩ := setCells_same L.b news (n * L.s) w
          rw [hdrop, List.append_nil] at g3
          have hx := Env.put_ext (L := L) hnew
          refine ⟨_, _, ρ.put aid L, run _ _ g2, ⟨hx, ?_, move_ok hw hid hL hlt hnew k4 (fun q hq => setCells_far news _ q hq) (g3.mono hx), ⟨k1, k2, k3, by rw [k4]; exact Nat.le_refl _, fun q hq => setCells_far news _ q (by omega)⟩, fun id' hid' => Env.put_ne hid'⟩, rfl, rfl, fun j hj => ?_⟩
          · have := Rel.sl (ρ := ρ.put aid L) (id := aid) (i := 0) (n := n + new.length) (rc := rc) (t := false) (L := L) Env.put_self hroom (fun q => by cases q) (fun _ => by omega)
            simpa using this
          · show ((s.h.upd id none).upd aid _) j = s.h j
            rw [upd_ne _ _ (by omega), upd_ne _ _ (by omega)]
        · obtain ⟨c, T, q1, q2, q3, q4, q5⟩ := hok
          have hcur : n * L.s ≤ c.size := by rw [q2]; exact Nat.mul_le_mul_right _ (by omega)
          have hold : Flat ρ L.s (rs.take n) (c.toList.take (n * L.s)) := by
            refine ⟨by simp [Nat.min_eq_left c2, Nat.min_eq_left hcur], fun j row h => ?_, fun j row k x h hk => ?_⟩
            · obtain ⟨j', hj', rfl⟩ := List.getElem_of_mem (List.mem_of_mem_take (List.mem_of_getElem? h))
              exact q4 j' _ (List.getElem?_eq_getElem hj')
            · rw [List.getElem?_take] at h
              split at h
              case isFalse => cases h
              rename_i hjn
              have hk' : k < L.s := by rw [← q4 j row h]; exact (List.getElem?_eq_some_iff.1 hk).1
              have := q5 j row k x h hk
              refine ⟨this.1, ?_⟩
              rw [List.getD_eq_getElem?_getD, List.getElem?_take, if_pos (mul_lt hjn hk'), ← List.getD_eq_getElem?_getD, ← arr_getD]
              exact this.2
          have holds : ∀ j u, (c.toList.take (n * L.s))[j]? = some u → w.cell? ((⟨L.b, 0 * L.s, none⟩ : Addr).add j) = some u := by
            intro j u hu'
            rw [List.getElem?_take] at hu'
            split at hu'
            case isFalse => cases hu'
            rw [add_addr, Nat.zero_mul, Nat.zero_add]
            simp only [World.cell?, q1]
            simpa using hu'
          have hm : 0 < new.length := by omega
          have hol := hold.len
          have hfo := run_firstCells_some (P := P) w.drew i.size n ⟨L.b, 0 * L.s, none⟩ n rc (c.toList.take (n * L.s)) (by rw [his, hol]; simp [Nat.min_eq_left c2]) (by simpa using holds)
          have hr := Go.run_append_grow_src w t tx o.type e i z hu hi hz (some ⟨L.b, 0 * L.s, none⟩) n rc (c.toList.take (n * L.s)) hfo Y new.length news hS (by omega) (by omega) (growslice_fits (by omega) (by rw [hib]; exact c5))
          have hrl : (rs.take n ++ new).length = n + new.length := by simp; omega
          obtain ⟨ρ', w', rfl, hd⟩ := grow_ok (P := P) (hw.kill id) (flat_app hold hfl) hzs (cap := grownCap w (n + new.length) rc e) (by rw [hrl]; exact grownCap_ge ..) (e := e) hlt hnew
          rw [hrl] at hd
          refine ⟨_, _, ρ', run _ _ ?_, hd, rfl, rfl, fun j hj => ?_⟩
          · rw [hr]
          · show ((s.h.upd id none).upd aid _) j = s.h j
            rw [upd_ne _ _ (by omega), upd_ne _ _ (by omega)]
  · cases hv
end
end
end Go.Proofs.Ytgcciohenncplaa.Ai
