/- Memory: append. -/
import Derived.Test.YtgcciohenncplaaAi13
namespace Go.Proofs.Ytgcciohenncplaa.Ai
noncomputable section
open Go.RowKit (Below)

/-- A block of ours is written, and goes by another name from then on. -/
theorem move_ok {N : Nat} {ρ : Env} {s : AS} {w w' : World} (hw : OkW N ρ s w) {id aid : Nat} (hid : s.h id ≠ none) {L : Loc} (hL : ρ.loc id = some L) (hlt : aid < s.n) (hnew : ρ.loc aid = none) (hsz : w'.heap.size = w.heap.size) (hoth : ∀ k, k ≠ L.b → w'.heap[k]? = w.heap[k]?) {b' : Blk} (hblk : OkB (ρ.put aid L) L w' b') :
    OkW N (ρ.put aid L) { s with h := (s.h.upd id none).upd aid (some b') } w' := by
  have hx := Env.put_ext (L := L) hnew
  have hne : aid ≠ id := fun e => by rw [e, hL] at hnew; cases hnew
  have key : ∀ i, ((s.h.upd id none).upd aid (some b')) i ≠ none → i = aid ∨ (i ≠ aid ∧ i ≠ id ∧ s.h i ≠ none) := by
    intro i hi
    by_cases e : i = aid
    · exact .inl e
    · rw [upd_ne _ _ e] at hi
      by_cases e' : i = id
      · rw [e', upd_self] at hi; exact absurd rfl hi
      · rw [upd_ne _ _ e'] at hi; exact .inr ⟨e, e', hi⟩
  obtain ⟨b0, hb0⟩ := Option.ne_none_iff_exists'.1 hid
  obtain ⟨M0, m1, m2, m3, _⟩ := hw.own id b0 hb0
  rw [hL] at m1; cases m1
  have far : ∀ i M, i ≠ id → s.h i ≠ none → ρ.loc i = some M → M.b ≠ L.b := fun i M h1 h2 h3 q => h1 (hw.inj i id M L h2 hid h3 hL q)
  refine ⟨fun i b hb => ?_, fun i j M M' h1 h2 l1 l2 he => ?_, fun b o v hv => ?_, fun i M o h1 l1 => ?_, fun i hi => ?_, by rw [hsz]; exact hw.size⟩
  · by_cases e : i = aid
    · subst e
      rw [show ({ s with h := (s.h.upd id none).upd i (some b') } : AS).h i = some b' from upd_self ..] at hb
      cases hb
      exact ⟨L, Env.put_self, m2, by rw [hsz]; exact m3, hblk⟩
    · rw [show ({ s with h := (s.h.upd id none).upd aid (some b') } : AS).h i = s.h.upd id none i from upd_ne _ _ e] at hb
      by_cases e' : i = id
      · rw [e', upd_self] at hb; cases hb
      · rw [upd_ne _ _ e'] at hb
        obtain ⟨M, a1, a2, a3, a4⟩ := hw.own i b hb
        exact ⟨M, by rw [Env.put_ne e]; exact a1, a2, by rw [hsz]; exact a3, (a4.mono hx).world (hoth _ (far i M e' (by rw [hb]; simp) a1))⟩
  · rcases key i h1 with rfl | ⟨p1, p2, p3⟩ <;> rcases key j h2 with rfl | ⟨q1, q2, q3⟩
    · rfl
    · rw [Env.put_self] at l1; cases l1
      rw [Env.put_ne q1] at l2
      exact absurd he.symm (far j M' q2 q3 l2)
    · rw [Env.put_self] at l2; cases l2
      rw [Env.put_ne p1] at l1
      exact absurd he (far i M p2 p3 l1)
    · rw [Env.put_ne p1] at l1
      rw [Env.put_ne q1] at l2
      exact hw.inj i j M M' p3 q3 l1 l2 he
  · have h0 := hw.imm b o v hv
    rw [cell_world (hoth b fun q => ?_)]; exact h0
    have := hw.sep id L o hid hL
    rw [← q] at this
    have hv' : ρ.imm b o = some v := hv
    rw [hv'] at this; cases this
  · rcases key i h1 with rfl | ⟨p1, p2, p3⟩
    · rw [Env.put_self] at l1; cases l1
      exact hw.sep id L o hid hL
    · rw [Env.put_ne p1] at l1
      exact hw.sep i M o p3 l1
  · rw [Env.put_ne (by show i ≠ aid; have : s.n ≤ i := hi; omega)]
    exact hw.new i hi

/-- Rows written behind so many of a block's. -/
theorem rows_put {ρ : Env} {L : Loc} {w : World} {rs new : List (List AV)} (hb : OkB ρ L w (.rows rs)) {n : Nat} (hn : n ≤ rs.length) {news : List Value} (hf : Flat ρ L.s new news) (hcap : n + new.length ≤ L.cap) :
    ∃ c T, w.heap[L.b]? = some (.cells c T (0, 0)) ∧ n * L.s + news.length ≤ c.size ∧ ∀ (w' : World) c', w'.heap[L.b]? = some (.cells c' T (0, 0)) → c'.size = c.size → c'.toList = c.toList.take (n * L.s) ++ news ++ c.toList.drop (n * L.s + news.length) →
      OkB ρ L w' (.rows (rs.take n ++ new ++ rs.drop (n + new.length))) := by
  obtain ⟨c, T, h1, h2, h3, h4, h5⟩ := hb
  have hnl := hf.len
  have hfit : n * L.s + news.length ≤ c.size := by rw [hnl, h2, ← Nat.add_mul]; exact Nat.mul_le_mul_right _ hcap
  refine ⟨c, T, h1, hfit, fun w' c' e1 e2 e3 => ⟨c', T, e1, by rw [e2]; exact h2, by simp; omega, ?_, ?_⟩⟩
  · intro i row hi
    rcases List.mem_append.1 (List.mem_of_getElem? hi) with q | q
    · rcases List.mem_append.1 q with q | q
      · obtain ⟨j, hj, rfl⟩ := List.getElem_of_mem (List.mem_of_mem_take q)
        exact h4 j _ (List.getElem?_eq_getElem hj)
      · obtain ⟨j, hj, rfl⟩ := List.getElem_of_mem q
        exact hf.row j _ (List.getElem?_eq_getElem hj)
    · obtain ⟨j, hj, rfl⟩ := List.getElem_of_mem (List.mem_of_mem_drop q)
      exact h4 j _ (List.getElem?_eq_getElem hj)
  · have htl : (c.toList.take (n * L.s)).length = n * L.s := by rw [List.length_take, Array.length_toList]; omega
    have hget : ∀ q, c'.getD q undef = (if q < n * L.s then c.getD q undef else if q < n * L.s + news.length then news.getD (q - n * L.s) undef else c.getD q undef) := by
      intro q
      rw [arr_getD, List.getD_eq_getElem?_getD, e3]
      split
      · rename_i hq
        rw [List.append_assoc, List.getElem?_append_left (by rw [htl]; exact hq), List.getElem?_take, if_pos hq, arr_getD, List.getD_eq_getElem?_getD]
      · rename_i hq
        split
        · rename_i hq2
          rw [List.append_assoc, List.getElem?_append_right (by rw [htl]; omega), htl, List.getElem?_append_left (by omega), List.getD_eq_getElem?_getD]
        · rename_i hq2
          rw [List.append_assoc, List.getElem?_append_right (by rw [htl]; omega), htl, List.getElem?_append_right (by omega), List.getElem?_drop, arr_getD, List.getD_eq_getElem?_getD]
          rw [show n * L.s + news.length + (q - n * L.s - news.length) = q by omega]
    have hrt : (rs.take n).length = n := by simp; omega
    intro i row k x hi hk
    rw [hget]
    by_cases q1 : i < n
    · rw [List.append_assoc, List.getElem?_append_left (by rw [hrt]; exact q1), List.getElem?_take, if_pos q1] at hi
      have hk' : k < L.s := by rw [← h4 i row hi]; exact (List.getElem?_eq_some_iff.1 hk).1
      rw [if_pos (mul_lt q1 hk')]
      exact h5 i row k x hi hk
    · by_cases q2 : i < n + new.length
      · rw [List.append_assoc, List.getElem?_append_right (by rw [hrt]; omega), hrt, List.getElem?_append_left (by omega)] at hi
        have hk' : k < L.s := by rw [← hf.row _ row hi]; exact (List.getElem?_eq_some_iff.1 hk).1
        have hm := mul_lt (show i - n < new.length by omega) hk'
        have hsub : i * L.s = n * L.s + (i - n) * L.s := by rw [← Nat.add_mul]; congr 1; omega
        rw [if_neg (by omega), if_pos (by omega), show i * L.s + k - n * L.s = (i - n) * L.s + k by omega]
        exact hf.cell _ row k x hi hk
      · rw [List.append_assoc, List.getElem?_append_right (by rw [hrt]; omega), hrt, List.getElem?_append_right (by omega), List.getElem?_drop] at hi
        rw [show n + new.length + (i - n - new.length) = i by omega] at hi
        have : (n + new.length) * L.s ≤ i * L.s := Nat.mul_le_mul_right _ (by omega)
        rw [Nat.add_mul] at this
        rw [if_neg (by omega), if_neg (by omega)]
        exact h5 i row k x hi hk

theorem append_room_run {P : Program} {t tx ty e : TypeId} {i : TypeInfo} (ht : P.underlying t = some (.slice e)) (hi : P.info? e = some i) {w : World} {g sLen sCap m : Nat} {x : Value} {cur : Array Value} {T : TypeId} (hg : w.heap[g]? = some (.cells cur T (0, 0)))
    {news : List Value} (hs : Go.Src P i.size tx x m news w) (hroom : sLen + m ≤ sCap) (hfit : sLen * i.size + news.length ≤ cur.size) :
    (Builtin.append_ #[t, tx] ty #[.slice (some ⟨g, 0, none⟩) sLen sCap, x]).run P w = .ok (.slice (some ⟨g, 0, none⟩) (sLen + m) sCap) (w.setCells g (sLen * i.size) news) := by
  have := Go.run_append_room_src w t tx ty e i ht hi g 0 sLen sCap x m news hs hroom (fun j hj => by simp [World.cell?, hg]; omega) (fun j hj => by simp [World.frozen?, hg])
  rw [Nat.zero_add] at this
  exact this
theorem append_none_run {P : Program} {t tx ty e : TypeId} {i : TypeInfo} (ht : P.underlying t = some (.slice e)) (hi : P.info? e = some i) {w : World} {ad0 : Option Addr} {x : Value} {news : List Value} (hs : Go.Src P i.size tx x 0 news w) :
    (Builtin.append_ #[t, tx] ty #[.slice ad0 0 0, x]).run P w = .ok (.slice ad0 0 0) w := by
  have hn : news = [] := List.eq_nil_of_length_eq_zero (by rw [hs.newsLen, Nat.zero_mul])
  subst hn
  have hl := hs.len
  have hc := hs.cells
  rcases hs.kind with ⟨e', hk⟩ | hk <;> cases ad0 <;> simp [Builtin.append_, run_underlying' ht, run_underlying' hk, sizeOf, typeInfo, hi, hl, hc, storeCells]

end
end Go.Proofs.Ytgcciohenncplaa.Ai
