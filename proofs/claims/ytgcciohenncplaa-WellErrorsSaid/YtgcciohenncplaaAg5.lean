/- Functions that are known otherwise: the Builder's String. -/
import Derived.Test.YtgcciohenncplaaAg4
import Derived.Lib.UnsafeStr
namespace Go.Proofs.Ytgcciohenncplaa.Ai
noncomputable section
open Go.RowKit

set_option maxHeartbeats 2000000 in
set_option maxRecDepth 100000 in
theorem string_calls (b : Nat) (l : List UInt8) (n c : Nat) (a : Option Addr) (w W : World) (c1 : w.drew.cell? ⟨b, 1, none⟩ = some (.slice a n c))
    (hSD : (Builtin.unsafeSliceData_ #[64] 154 #[.slice a n c]).run Try.prog w.drew = .ok (.pointer a) w.drew)
    (hUS : (Builtin.unsafeString_ #[154, 3] 9 #[.pointer a, .int .i64 n]).run Try.prog w.drew = .ok (.string ⟨l.toArray⟩) W) :
    Calls Try.prog 53 #[.pointer (some ⟨b, 0, none⟩)] w fun e w' => e = .returned (.string ⟨l.toArray⟩) ∧ w' = W := by
  have mixed : Try.prog.follows .mixedOrders = true := by kernel_rfl
  go_enter Try.func53, Try.ntmps53
  go_wp2
  go_region_o
  all_goals (go_wp2; go_ret; exact ⟨rfl, rfl⟩)

/-- What a Builder has. -/
def gString (args : List AV) (s : AS) : Option (AV × AS) :=
  match args with
  | [.ptr id 0 0] => match s.h id with
    | some .bld => some (.str [], s)
    | some (.rows [[_, .nils]]) => some (.str [], s)
    | some (.rows [[_, .sl i2 0 n 1 false]]) => match s.h i2 with
      | some (.buf (x :: l)) => if (x :: l).length = n ∧ n ≤ 140737488355328 then some (.str (x :: l), s) else none
      | _ => none
    | _ => none
  | _ => none

theorem gString_inv {args : List AV} {s s' : AS} {v : AV} (h : gString args s = some (v, s')) : ∃ id, args = [.ptr id 0 0] ∧ s' = s ∧
    ((s.h id = some .bld ∧ v = .str []) ∨ (∃ q, s.h id = some (.rows [[q, .nils]]) ∧ v = .str []) ∨
      ∃ q i2 l, s.h id = some (.rows [[q, .sl i2 0 l.length 1 false]]) ∧ s.h i2 = some (.buf l) ∧ l ≠ [] ∧ l.length ≤ 140737488355328 ∧ v = .str l) := by
  unfold gString at h
  split at h
  case h_2 => cases h
  rename_i id
  split at h
  · rename_i hb; cases h; exact ⟨id, rfl, rfl, .inl ⟨hb, rfl⟩⟩
  · rename_i hb; cases h; exact ⟨id, rfl, rfl, .inr (.inl ⟨_, hb, rfl⟩)⟩
  · rename_i q i2 n hb
    split at h
    case h_2 => cases h
    rename_i x l hl
    split at h
    case isFalse => cases h
    rename_i hc
    obtain ⟨rfl, c2⟩ := hc
    cases h
    exact ⟨id, rfl, rfl, .inr (.inr ⟨q, i2, x :: l, hb, hl, by simp, c2, rfl⟩)⟩
  · cases h

theorem freeze_far {w : World} {g n k : Nat} (h : k ≠ g) : (w.freeze ⟨g, 0, none⟩ n).heap[k]? = w.heap[k]? := by
  unfold World.freeze
  split
  · rfl
  · simp only [Array.getElem?_modify]; rw [if_neg (fun q => h q.symm)]

theorem freeze_size {w : World} {g n : Nat} : (w.freeze ⟨g, 0, none⟩ n).heap.size = w.heap.size := by
  unfold World.freeze
  split
  · rfl
  · simp

theorem freeze_at {w : World} {g n : Nat} {c : Array Value} {T : TypeId} {fz : Nat × Nat} (h : w.heap[g]? = some (.cells c T fz)) (hf : fz.2 ≤ n) : ∃ fz', (w.freeze ⟨g, 0, none⟩ n).heap[g]? = some (.cells c T fz') ∧ fz'.2 ≤ n := by
  unfold World.freeze
  split
  · exact ⟨fz, h, hf⟩
  · obtain ⟨lo, hi⟩ := fz
    simp only [Array.getElem?_modify, h, Option.map_some]
    refine ⟨_, rfl, ?_⟩
    split <;> simp
    exact Nat.max_le.2 ⟨hf, Nat.le_refl _⟩

theorem string_one : GOne Try.prog 53 gString := by
  have hp : Try.prog.underlying 154 = some (.pointer uT) := by kernel_rfl
  have hc5 : Try.prog.cellsOf uT = 1 := by kernel_rfl
  refine ⟨⟨_, Try.func53, by kernel_rfl, by kernel_rfl⟩, ?_, ?_⟩
  · intro args s v s' h hl
    obtain ⟨id, rfl, rfl, _⟩ := gString_inv h
    exact ⟨Nat.le_refl _, rfl, fun _ _ => rfl⟩
  · intro args s v s' h hl N ρ w Vs hw ha
    obtain ⟨id, rfl, rfl, hcase⟩ := gString_inv h
    match Vs, ha, ha.len with
    | [V1], ha, _ =>
      have r1 : Rel ρ (.ptr id 0 0) V1 := ha.at_ 0 _ rfl
      cases r1 with
      | @ptr _ _ _ L hL =>
        rw [show 0 * L.s + 0 = 0 by omega]
        have none_case : ∀ (hc : w.drew.cell? ⟨L.b, 1, none⟩ = some (.slice none 0 0)) (hv : v = .str []), Calls Try.prog 53 [Value.pointer (some ⟨L.b, 0, none⟩)].toArray w fun e w' => ∃ V ρ', e = .returned V ∧ Done Try.prog N ρ w v s' (fun id => s'.n ≤ id) V w' ρ' := by
          rintro hc rfl
          refine (string_calls L.b [] 0 0 none w w.drew hc rfl (Lib.run_unsafeString_none _ _ _ _ none)).mono fun e w' ⟨he, hw'⟩ => ?_
          subst hw'
          exact ⟨_, ρ, he, Ext.refl ρ, .str rfl, hw.heap rfl, (Below.refl _ _).drew, fun _ _ => rfl⟩
        rcases hcase with ⟨hb, hv⟩ | ⟨q, hb, hv⟩ | ⟨q, i2, l, hb, hi2, hne, hle, rfl⟩
        · obtain ⟨L', hL', _, _, c, h1, h2, h3, h4⟩ := hw.own id _ hb
          rw [hL] at hL'; cases hL'
          have g1 := h4.at_ 1 _ rfl
          have hcs : c.size = 2 := by simpa using h4.len
          have e1 : c.toList[1]? = some (c.toList.getD 1 undef) := by rw [List.getD_eq_getElem?_getD, List.getElem?_eq_getElem (by simp; omega)]; rfl
          refine none_case ?_ hv
          show w.cell? _ = _
          simp only [World.cell?, h1]
          generalize c.toList.getD 1 undef = U at g1 e1
          cases g1
          simpa using e1
        · obtain ⟨d2, d, hd⟩ := hw.cell hb hL (i := 0) rfl
          obtain ⟨_, q2, q3⟩ := hd 1 _ rfl
          rw [show 0 * L.s + 1 = 1 by omega] at q3
          refine none_case ?_ hv
          show w.cell? _ = _
          rw [q3]
          generalize d 1 = U at q2
          cases q2
          rfl
        · obtain ⟨d2, d, hd⟩ := hw.cell hb hL (i := 0) rfl
          obtain ⟨_, q2, q3⟩ := hd 1 _ rfl
          rw [show 0 * L.s + 1 = 1 by omega] at q3
          obtain ⟨M, rc, hM, hMs, hn, hrc, hd1⟩ := rel_sl q2
          rw [hd1, Nat.zero_mul] at q3
          obtain ⟨M', hM', hNM, hMlt, c, fz, k1, k2, k3, k4, k5, k6⟩ := hw.own i2 _ hi2
          rw [hM] at hM'; cases hM'
          have hl0 : l.length ≠ 0 := by simpa using hne
          have k1' : w.drew.heap[M.b]? = some (.cells c uT fz) := k1
          refine (string_calls L.b l l.length rc (some ⟨M.b, 0, none⟩) w (w.drew.freeze ⟨M.b, 0, none⟩ l.length) q3 (Lib.run_unsafeSliceData_row _ _ _ _ _ _ (by omega))
            (Lib.run_unsafeString_row w.drew 154 3 9 uT hp hc5 M.b c.size (by simp [World.shape?, k1']) l hne (by omega) (by omega) fun j x hx => ?_)).mono fun e w' ⟨he, hw'⟩ => ?_
          · rw [add_addr, Nat.zero_add]
            have := k6 j x hx
            simp only [World.cell?, k1']
            simpa using this
          · subst hw'
            obtain ⟨fz', z1, z2⟩ := freeze_at (n := l.length) k1' k5
            have hok := put_ok (hw.heap (w' := w.drew) rfl) (by rw [hi2]; simp) hM (freeze_size (g := M.b) (n := l.length)) (fun k hk => freeze_far hk) (b' := .buf l) ⟨c, fz', z1, k2, k3, k4, z2, k6⟩
            have hsame : ({ s' with h := s'.h.upd i2 (some (.buf l)) } : AS) = s' := by
              have : s'.h.upd i2 (some (.buf l)) = s'.h := by
                funext j
                by_cases e : j = i2
                · rw [e, upd_self, hi2]
                · rw [upd_ne _ _ e]
              rw [this]
            rw [hsame] at hok
            exact ⟨_, ρ, he, Ext.refl ρ, .str rfl, hok, Lib.below_freeze ((Below.refl _ _).drew) (p := ⟨M.b, 0, none⟩) hNM _, fun _ _ => rfl⟩

end
end Go.Proofs.Ytgcciohenncplaa.Ai
