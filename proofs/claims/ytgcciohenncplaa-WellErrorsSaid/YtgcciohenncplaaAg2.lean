/- Functions that are known otherwise: strings.Join. -/
import Derived.Test.YtgcciohenncplaaAg1
import Derived.Test.YtgcciohenncplaaShelf
namespace Go.Proofs.Ytgcciohenncplaa.Ai
noncomputable section
open Go.RowKit

/-- What lies below the heap's end is as it was: what is known stays known. -/
theorem OkW.below {N : Nat} {ρ : Env} {s : AS} {w w' : World} (h : OkW N ρ s w) (hb : Below w.heap.size w w') : OkW N ρ s w' := by
  have hs : ∀ k, k < w.heap.size → w'.heap[k]? = w.heap[k]? := fun k hk => hb.block k hk
  have hz : w.heap.size ≤ w'.heap.size := hb.size
  refine ⟨fun id blk q => ?_, h.inj, fun b o v q => ?_, h.sep, h.new, Nat.le_trans h.size hz⟩
  · obtain ⟨L, h1, h2, h3, h4⟩ := h.own id blk q
    exact ⟨L, h1, h2, by omega, h4.world (hs L.b h3)⟩
  · have h0 := h.imm b o v q
    have hlt : b < w.heap.size := by
      rcases Nat.lt_or_ge b w.heap.size with g | g
      · exact g
      · simp only [World.cell?] at h0
        rw [Array.getElem?_eq_none (by simpa using g)] at h0
        cases h0
    rw [cell_world (hs b hlt)]; exact h0

def strsOf : List (List AV) → Option (List (List UInt8))
  | [] => some []
  | [.str l] :: r => match strsOf r with
    | some t => some (l :: t)
    | none => none
  | _ :: _ => none
theorem strsOf_get : ∀ {rows : List (List AV)} {xs : List (List UInt8)}, strsOf rows = some xs → rows = xs.map fun l => [.str l]
  | [], xs, h => by cases h; rfl
  | r :: rs, xs, h => by
    unfold strsOf at h
    split at h
    · rename_i e; cases e
    · rename_i l r' e
      cases e
      split at h
      · rename_i t ht
        cases h
        rw [strsOf_get ht]; rfl
      · cases h
    · cases h

def notStr : AV → Bool
  | .str _ => false
  | _ => true
theorem rel_cap {ρ : Env} {x : AV} {V : Value} (h : Rel ρ x V) : x ≠ .top → ∀ ad n c, V = .slice ad n c → n ≤ c := by
  intro ht
  cases h <;> intro ad n c e <;> first | (cases e; done) | (exact absurd rfl ht) | (cases e; omega)

def gJoin (args : List AV) (s : AS) : Option (AV × AS) :=
  match args with
  | [x, .str sep] => match rowsOf s.h x with
    | some rows => match strsOf rows with
      | some xs => if xs.length ≤ 140737488355328 ∧ (Lib.join xs sep).length ≤ 140737488355328 ∧ notStr x = true then some (.str (Lib.join xs sep), s) else none
      | none => none
    | none => none
  | _ => none

theorem join_one : GOne Try.prog 82 gJoin := by
  have inv : ∀ args s v s', gJoin args s = some (v, s') → ∃ x sep rows xs, args = [x, .str sep] ∧ rowsOf s.h x = some rows ∧ strsOf rows = some xs ∧ xs.length ≤ 140737488355328 ∧ (Lib.join xs sep).length ≤ 140737488355328 ∧ (∀ l, x ≠ .str l) ∧ v = .str (Lib.join xs sep) ∧ s' = s := by
    intro args s v s' h
    unfold gJoin at h
    split at h
    case h_2 => cases h
    rename_i x sep
    split at h
    case h_2 => cases h
    rename_i rows h1
    split at h
    case h_2 => cases h
    rename_i xs h2
    split at h
    case isFalse => cases h
    rename_i h3
    cases h
    exact ⟨x, sep, rows, xs, rfl, h1, h2, h3.1, h3.2.1, fun l e => by subst e; exact absurd h3.2.2 Bool.false_ne_true, rfl, rfl⟩
  refine ⟨⟨_, Try.func82, by kernel_rfl, by kernel_rfl⟩, ?_, ?_⟩
  · intro args s v s' h hl
    obtain ⟨x, sep, rows, xs, rfl, _, _, _, _, _, rfl, rfl⟩ := inv args s v s' h
    exact ⟨Nat.le_refl _, rfl, fun _ _ => rfl⟩
  · intro args s v s' h hl N ρ w Vs hw ha
    obtain ⟨x, sep, rows, xs, rfl, h1, h2, h3, h4, h5, rfl, rfl⟩ := inv args s v s' h
    have hrows := strsOf_get h2
    match Vs, ha, ha.len with
    | [V1, V2], ha, _ =>
      have r1 : Rel ρ x V1 := ha.at_ 0 _ rfl
      have r2 : Rel ρ (.str sep) V2 := ha.at_ 1 _ rfl
      cases r2 with
      | @str _ sb hsb =>
        subst hsb
        have hall : rows.all (fun r => r.length == 1 && scals r) = true := by
          rw [hrows, List.all_eq_true]
          intro r hr
          obtain ⟨l, _, rfl⟩ := List.mem_map.1 hr
          rfl
        obtain ⟨ad, c, news, rfl, hf, _, _, hp⟩ := (src_ok (P := Try.prog) hw r1 h5 h1 hall).ex
        have hlen : rows.length = xs.length := by rw [hrows, List.length_map]
        rcases Nat.eq_zero_or_pos xs.length with q | q
        · have hx : xs = [] := List.eq_nil_of_length_eq_zero q
          subst hx
          rw [hlen]
          refine (Try.strings_Join_none ad c sb w).mono fun e w' ⟨he, hw'⟩ => ?_
          subst hw'
          exact ⟨_, ρ, he, Ext.refl ρ, .str rfl, hw, Below.refl _ _, fun id _ => rfl⟩
        · obtain ⟨b, o, rfl, hm⟩ := hp (by omega)
          have hcap : rows.length ≤ c := rel_cap r1 (fun e => by subst e; cases h1) _ _ _ rfl
          -- the texts, as memory has them
          have hc : ∀ (j : Nat) l, xs[j]? = some l → ∃ t : ByteArray, t.data.toList = l ∧ w.cell? ⟨b, o + j, none⟩ = some (.string t) := by
            intro j l hj
            have g1 : rows[j]? = some [.str l] := by rw [hrows, List.getElem?_map, hj]; rfl
            have g2 := hf.cell j _ 0 _ g1 rfl
            rw [Nat.mul_one, Nat.add_zero] at g2
            have hjl : j < news.length := by rw [hf.len, Nat.mul_one]; exact (List.getElem?_eq_some_iff.1 g1).1
            have g3 := hm j _ (List.getElem?_eq_getElem hjl)
            rw [add_addr] at g3
            have g4 : news.getD j undef = news[j] := by simp [List.getD_eq_getElem?_getD, hjl]
            rw [g4] at g2
            generalize news[j] = U at g2 g3
            cases g2.2 with
            | @str _ t ht => exact ⟨t, ht, g3⟩
          have hts : ∃ ts : List ByteArray, ts.map (·.data.toList) = xs ∧ ∀ (j : Nat) t, ts[j]? = some t → w.cell? ⟨b, o + j, none⟩ = some (.string t) := by
            refine ⟨xs.map fun l => ⟨l.toArray⟩, ?_, fun j t hj => ?_⟩
            · rw [List.map_map]
              conv => rhs; rw [← List.map_id xs]
              apply List.map_congr_left
              intro l _
              rfl
            · rw [List.getElem?_map, Option.map_eq_some_iff] at hj
              obtain ⟨l, hl', rfl⟩ := hj
              obtain ⟨t, ht, hcell⟩ := hc j l hl'
              rw [hcell]
              congr 2
              rw [← ht]
          obtain ⟨ts, hts1, hts2⟩ := hts
          have htl : ts.length = xs.length := by rw [← hts1, List.length_map]
          rw [hlen, ← htl]
          have hbk : b < w.heap.size := by
            obtain ⟨t, _, hcell⟩ := hc 0 _ (List.getElem?_eq_getElem q)
            rcases Nat.lt_or_ge b w.heap.size with g | g
            · exact g
            · simp only [World.cell?] at hcell
              rw [Array.getElem?_eq_none (by simpa using g)] at hcell
              cases hcell
          refine (Try.strings_Join b o c ts sb w hts2 hbk (by omega) (by omega) (by rw [hts1]; exact h4)).mono fun e w' ⟨he, hw'⟩ => ?_
          refine ⟨_, ρ, he, Ext.refl ρ, .str ?_, hw.below hw', ?_, fun id _ => rfl⟩
          · rw [hts1]
          · exact ⟨hw'.os, hw'.tape, hw'.output, hw'.size, fun k hk => hw'.block k (by have := hw.size; omega)⟩

end
end Go.Proofs.Ytgcciohenncplaa.Ai
