/- Memory: appends. -/
import Derived.Test.YtgcciohenncplaaAi12
import Derived.Deep.AppendSrc
namespace Go.Proofs.Ytgcciohenncplaa.Ai
noncomputable section
open Go.RowKit (Below)

/-- What is appended, as memory has it. -/
structure Src (P : Program) (ρ : Env) (sz : Nat) (new : List (List AV)) (w : World) (X : Value) : Prop where
  ex : ∃ ad c news, X = .slice ad new.length c ∧ Flat ρ sz new news ∧ (∀ u ∈ news, u.oneCell' = true) ∧
    (∀ w0 : World, w0.heap = w.heap → (Builtin.firstCells sz new.length X).run P w0 = .ok news.toArray w0) ∧
    (0 < new.length → ∃ b o, ad = some ⟨b, o, none⟩ ∧ ∀ j u, news[j]? = some u → w.cell? ((⟨b, o, none⟩ : Addr).add j) = some u)

theorem first_run {P : Program} {sz m : Nat} {b o l c : Nat} {news : List Value} (hl : news.length = m * sz) {w : World} (h : ∀ j u, news[j]? = some u → w.cell? ((⟨b, o, none⟩ : Addr).add j) = some u) (w0 : World) (e : w0.heap = w.heap) :
    (Builtin.firstCells sz m (.slice (some ⟨b, o, none⟩) l c)).run P w0 = .ok news.toArray w0 := by
  exact run_firstCells_some (P := P) w0 sz m _ l c news hl (fun j v hj => by
    have := h j v hj
    rw [add_addr] at this ⊢
    rw [cell_world (w := w) (by rw [e])]; exact this)

theorem Flat.ones {ρ : Env} {s : Nat} {rs : List (List AV)} {cs : List Value} (h : Flat ρ s rs cs) : ∀ u ∈ cs, u.oneCell' = true := by
  intro u hu
  obtain ⟨n, hn, rfl⟩ := List.getElem_of_mem hu
  have hl := h.len
  have hs : 0 < s := by
    rcases Nat.eq_zero_or_pos s with q | q
    · rw [q] at hl; omega
    · exact q
  have hi : n / s < rs.length := by rw [Nat.div_lt_iff_lt_mul hs]; omega
  have hk : n % s < s := Nat.mod_lt _ hs
  have hr := h.row _ _ (List.getElem?_eq_getElem hi)
  have hx := h.cell (n / s) _ (n % s) _ (List.getElem?_eq_getElem hi) (List.getElem?_eq_getElem (by rw [hr]; exact hk))
  have e : n / s * s + n % s = n := by rw [Nat.mul_comm]; exact Nat.div_add_mod n s
  rw [e] at hx
  have : cs.getD n undef = cs[n] := by simp [List.getD_eq_getElem?_getD, hn]
  rw [this] at hx
  exact hx.2.one hx.1

theorem src_ok {P : Program} {N : Nat} {ρ : Env} {s : AS} {w : World} (hw : OkW N ρ s w) {x : AV} {X : Value} (hx : Rel ρ x X) {sz : Nat} {new : List (List AV)} (hns : ∀ l, x ≠ .str l) (hr : rowsOf s.h x = some new) (hall : new.all (fun r => r.length == sz && scals r) = true) : Src P ρ sz new w X := by
  have hrow : ∀ (i : Nat) row, new[i]? = some row → row.length = sz ∧ scals row = true := by
    intro i row h
    have := List.all_eq_true.1 hall row (List.mem_of_getElem? h)
    simpa using this
  have nil : ∀ ad c, X = .slice ad 0 c → new = [] → Src P ρ sz new w X := by
    rintro ad c rfl rfl
    refine ⟨ad, c, [], rfl, ⟨by simp, fun i r h => (by cases h), fun i r k x h => (by cases h)⟩, fun u h => (by cases h), fun w0 _ => ?_, fun h => (by simp at h)⟩
    cases ad <;> simp [Builtin.firstCells, loadCells, loadCellsFrom]
  cases x <;> first | (simp only [rowsOf] at hr; done) | skip
  all_goals first | (cases hr; done) | (exact absurd rfl (hns _)) | skip
  · simp only [rowsOf, Option.some.injEq] at hr
    cases hx
    exact nil _ _ rfl hr.symm
  · simp only [rowsOf, Option.some.injEq] at hr
    cases hx
    exact nil _ _ rfl hr.symm
  · rename_i id i n z t
    simp only [rowsOf] at hr
    split at hr
    case h_2 => cases hr
    rename_i rs hrs
    split at hr
    case isFalse => cases hr
    rename_i hle
    cases hr
    cases hx with
    | @sl _ _ _ rc _ L hL hn ht hf =>
      have hnl : ((rs.drop i).take n).length = n := by simp; omega
      obtain ⟨L', hL', _, _, c, T, h1, h2, h3, h4, h5⟩ := hw.own id _ hrs
      rw [hL] at hL'; cases hL'
      rcases Nat.eq_zero_or_pos n with q | q
      · subst q; exact nil _ _ rfl (by simp)
      have hget : ∀ (j : Nat) row, ((rs.drop i).take n)[j]? = some row → rs[i + j]? = some row ∧ j < n := by
        intro j row h
        rw [List.getElem?_take] at h
        split at h
        · rw [List.getElem?_drop] at h; exact ⟨h, by assumption⟩
        · cases h
      have hsz : L.s = sz := by
        have g : ((rs.drop i).take n)[0]? = some ((rs.drop i).take n)[0] := List.getElem?_eq_getElem (by omega)
        rw [← (hrow 0 _ g).1, h4 _ _ (hget 0 _ g).1]
      subst hsz
      have hfit : i * L.s + n * L.s ≤ c.size := by rw [h2, ← Nat.add_mul]; exact Nat.mul_le_mul_right _ (by omega)
      have hcell : ∀ j, j < n * L.s → ((c.toList.drop (i * L.s)).take (n * L.s))[j]? = c.toList[i * L.s + j]? := by
        intro j hj
        rw [List.getElem?_take, if_pos hj, List.getElem?_drop]
      have hlen : ((c.toList.drop (i * L.s)).take (n * L.s)).length = n * L.s := by simp; omega
      have hfl : Flat ρ L.s ((rs.drop i).take n) ((c.toList.drop (i * L.s)).take (n * L.s)) := by
        refine ⟨by rw [hlen, hnl], fun j row h => (hrow j row h).1, fun j row k x h hk => ?_⟩
        obtain ⟨g1, g2⟩ := hget j row h
        have hk' : k < L.s := by rw [← (hrow j row h).1]; exact (List.getElem?_eq_some_iff.1 hk).1
        have hjk := mul_lt g2 hk'
        have := h5 _ row k x g1 hk
        refine ⟨this.1, ?_⟩
        rw [List.getD_eq_getElem?_getD, hcell _ hjk, ← List.getD_eq_getElem?_getD, ← arr_getD, show i * L.s + (j * L.s + k) = (i + j) * L.s + k by rw [Nat.add_mul]; omega]
        exact this.2
      have hmem : ∀ j u, ((c.toList.drop (i * L.s)).take (n * L.s))[j]? = some u → w.cell? ((⟨L.b, i * L.s, none⟩ : Addr).add j) = some u := by
        intro j u hu
        have hj : j < n * L.s := by rw [← hlen]; exact (List.getElem?_eq_some_iff.1 hu).1
        rw [hcell j hj] at hu
        rw [add_addr]
        simp only [World.cell?, h1]
        simpa using hu
      refine ⟨_, rc, _, by rw [hnl], hfl, hfl.ones, ?_, fun _ => ⟨_, _, rfl, hmem⟩⟩
      rw [hnl]
      exact fun w0 e => first_run hlen hmem w0 e
  · rename_i rows
    simp only [rowsOf, Option.some.injEq] at hr
    subst hr
    cases hx with
    | ro0 => exact nil _ _ rfl rfl
    | @ro _ b o' s' rc c hn hl hi' hr' =>
      rcases Nat.eq_zero_or_pos rows.length with q | q
      · have : rows = [] := List.eq_nil_of_length_eq_zero q
        subst this; exact nil _ _ rfl rfl
      have hsz : s' = sz := by
        have g : rows[0]? = some rows[0] := List.getElem?_eq_getElem (by omega)
        rw [← (hrow 0 _ g).1, hl _ _ g]
      subst hsz
      have hlen : ((List.range (rows.length * s')).map c).length = rows.length * s' := by simp
      have hfl : Flat ρ s' rows ((List.range (rows.length * s')).map c) := by
        refine ⟨hlen, fun j row h => (hrow j row h).1, fun j row k x h hk => ?_⟩
        have hk' : k < s' := by rw [← (hrow j row h).1]; exact (List.getElem?_eq_some_iff.1 hk).1
        have hjk := mul_lt (List.getElem?_eq_some_iff.1 h).1 hk'
        refine ⟨scals_get (hrow j row h).2 hk, ?_⟩
        rw [List.getD_eq_getElem?_getD, List.getElem?_map, List.getElem?_range hjk]
        exact hr' j row k x h hk
      have hmem : ∀ j u, ((List.range (rows.length * s')).map c)[j]? = some u → w.cell? ((⟨b, o', none⟩ : Addr).add j) = some u := by
        intro j u hu
        have hj : j < rows.length * s' := by rw [← hlen]; exact (List.getElem?_eq_some_iff.1 hu).1
        rw [List.getElem?_map, List.getElem?_range hj] at hu
        have hs : 0 < s' := by
          rcases Nat.eq_zero_or_pos s' with q' | q'
          · rw [q'] at hj; omega
          · exact q'
        have hd : j / s' < rows.length := by rw [Nat.div_lt_iff_lt_mul hs]; exact hj
        have := hi' (j / s') _ (j % s') (List.getElem?_eq_getElem hd) (Nat.mod_lt _ hs)
        rw [show j / s' * s' + j % s' = j by rw [Nat.mul_comm]; exact Nat.div_add_mod j s'] at this
        rw [add_addr, hw.imm _ _ _ this]
        simpa using hu
      exact ⟨_, rc, _, rfl, hfl, hfl.ones, fun w0 e => first_run hlen hmem w0 e, fun _ => ⟨_, _, rfl, hmem⟩⟩

theorem flat_str {ρ : Env} (b : ByteArray) : Flat ρ 1 (b.data.toList.map fun b => [.int .u8 (b.toNat : Int)]) (Go.byteCells b) := by
  refine ⟨by rw [Go.byteCells_length, List.length_map, Array.length_toList, Nat.mul_one]; rfl, fun i row hi => ?_, fun i row k x hi hk => ?_⟩
  · rw [List.getElem?_map, Option.map_eq_some_iff] at hi
    obtain ⟨u, _, rfl⟩ := hi; rfl
  · rw [List.getElem?_map, Option.map_eq_some_iff] at hi
    obtain ⟨u, hu, rfl⟩ := hi
    cases k with
    | succ k => cases hk
    | zero =>
      cases hk
      refine ⟨rfl, ?_⟩
      have : (Go.byteCells b).getD (i * 1 + 0) undef = .int .u8 (u.toNat : Int) := by
        rw [Nat.mul_one, Nat.add_zero, List.getD_eq_getElem?_getD]
        unfold Go.byteCells
        rw [List.getElem?_map, hu]
        rfl
      rw [this]
      exact .int

/-- What is appended, be it a slice or a text. -/
theorem src_any {P : Program} {N : Nat} {ρ : Env} {s : AS} {w : World} (hw : OkW N ρ s w) {x : AV} {X : Value} (hx : Rel ρ x X) {sz : Nat} {new : List (List AV)} (hr : rowsOf s.h x = some new) (hall : new.all (fun r => r.length == sz && scals r) = true) :
    ∃ news, Flat ρ sz new news ∧ ∀ tx, ((∃ e', P.underlying tx = some (.slice e')) ∨ P.underlying tx = some .string) → Go.Src P sz tx X new.length news w := by
  by_cases hs : ∃ l, x = .str l
  · obtain ⟨l, rfl⟩ := hs
    cases hx with
    | @str _ b hb =>
      subst hb
      simp only [rowsOf, Option.some.injEq] at hr
      have hlen : new.length = b.size := by rw [← hr, List.length_map, Array.length_toList]; rfl
      have hf := flat_str (ρ := ρ) b
      have hcase : sz = 1 ∨ new = [] := by
        cases hn : new with
        | nil => exact .inr rfl
        | cons r rest =>
          have h0 : new[0]? = some r := by rw [hn]; rfl
          rw [← hr] at h0
          have h1 := hf.row 0 r h0
          have h2 := List.all_eq_true.1 hall r (by rw [hn]; exact List.mem_cons_self)
          simp only [Bool.and_eq_true, beq_iff_eq] at h2
          exact .inl (by rw [← h2.1, h1])
      rcases hcase with rfl | he
      · refine ⟨Go.byteCells b, by rw [← hr]; exact hf, fun tx hk => ?_⟩
        rw [hlen]
        exact ⟨hk, fun _ => rfl, Go.firstCells_string b w, Go.firstCells_string b w.drew, by rw [Go.byteCells_length, Nat.mul_one], hf.ones⟩
      · subst he
        have hb0 : Go.byteCells b = [] := List.eq_nil_of_length_eq_zero (by rw [Go.byteCells_length, ← hlen]; rfl)
        have hz : b.size = 0 := by rw [← hlen]; rfl
        have hc : ∀ w0 : World, (Builtin.firstCells sz 0 (.string b)).run P w0 = .ok ([] : List Value).toArray w0 := by
          intro w0
          have := Go.firstCells_string (P := P) b w0
          rw [hz, hb0] at this
          exact this
        exact ⟨[], ⟨by simp, fun i r h => (by cases h), fun i r k x h => (by cases h)⟩, fun tx hk => ⟨hk, fun w' => by show _ = Result.ok (0 : Nat) w'; rw [← hz]; rfl, hc w, hc w.drew, by simp, fun _ h => by cases h⟩⟩
  · obtain ⟨ad, c, news, rfl, hf, h1, hc, _⟩ := (src_ok (P := P) hw hx (fun l e => hs ⟨l, e⟩) hr hall).ex
    exact ⟨news, hf, fun tx hk => ⟨hk, fun _ => rfl, hc w rfl, hc w.drew rfl, hf.len, h1⟩⟩
end
end Go.Proofs.Ytgcciohenncplaa.Ai
