/- Functions that are known otherwise: the Builder's copyCheck, at a fresh one. -/
import Derived.Test.YtgcciohenncplaaAg2
import Derived.Lib.Builder
namespace Go.Proofs.Ytgcciohenncplaa.Ai
noncomputable section
open Go.RowKit

theorem infoB : ∃ j, Try.prog.info? bT = some j ∧ j.size = 2 := by
  have h : (Try.prog.info? bT).map (·.size) = some 2 := by kernel_rfl
  exact Option.map_eq_some_iff.1 h

set_option maxHeartbeats 1000000 in
set_option maxRecDepth 100000 in
theorem copyCheck_calls (b : Nat) (w : World) (h0 : w.cell? ⟨b, 0, none⟩ = some (.pointer none)) (hsh : w.shape? b = some (bT, 2)) (hfz : w.frozen? ⟨b, 0, none⟩ = false) :
    Calls Try.prog 80 #[.pointer (some ⟨b, 0, none⟩)] w fun e w' => e = .returned (.tuple #[]) ∧ w' = w.setCell ⟨b, 0, none⟩ (.pointer (some ⟨b, 0, none⟩)) := by
  obtain ⟨j, hj, hjs⟩ := infoB
  have hp : Try.prog.underlying 107 = some (.pointer bT) := by kernel_rfl
  have hu : Try.prog.underlying 167 = some .unsafePointer := by kernel_rfl
  go_enter Try.func80, Try.ntmps80
  go_wp2
  rw [Lib.run_to_unsafe w ⟨b, 0, none⟩ hp hu hj (by rw [hjs]; decide) hsh (Nat.zero_lt_succ 1)]
  simp only [Result.andThen]
  rw [Oper.upon_value]
  go_wp2
  rw [run_callFunc_extern Try.func104 (by kernel_rfl) (by kernel_rfl) (by kernel_rfl) (e := Extern.AbiNoEscape.same) (by kernel_rfl)]
  rw [Lib.run_noEscape]
  simp only [Result.andThen]
  rw [Oper.upon_value]
  go_wp2
  rw [Lib.run_from_unsafe w ⟨b, 0, none⟩ hu hp hj hsh (by kernel_rfl)]
  simp only [Result.andThen]
  rw [Oper.upon_value]
  go_wp2
  go_end0
  exact ⟨rfl, rfl⟩

set_option maxHeartbeats 1000000 in
set_option maxRecDepth 100000 in
theorem copyCheck_used (b : Nat) (w : World) (h0 : w.cell? ⟨b, 0, none⟩ = some (.pointer (some ⟨b, 0, none⟩))) :
    Calls Try.prog 80 #[.pointer (some ⟨b, 0, none⟩)] w fun e w' => e = .returned (.tuple #[]) ∧ w' = w := by
  obtain ⟨j, hj, hjs⟩ := infoB
  have hp : Try.prog.underlying 107 = some (.pointer bT) := by kernel_rfl
  go_enter Try.func80, Try.ntmps80
  go_wp2
  rw [Lib.run_neq_ptr_same w _ hp hj]
  go_wp2
  go_end0
  exact ⟨rfl, rfl⟩

/-- A fresh Builder; or one that holds its own place. -/
def gCheck (args : List AV) (s : AS) : Option (AV × AS) :=
  match args with
  | [.ptr id 0 0] => match s.h id with
    | some .bld => if Nat.ble s.lim id = true then some (.tup [], { s with h := s.h.upd id (some (.rows [[.ptr id 0 0, .nils]])) }) else none
    | some (.rows [[.ptr id' 0 0, _]]) => if id' = id then some (.tup [], s) else none
    | _ => none
  | _ => none

theorem gCheck_inv {args : List AV} {s : AS} {v : AV} {s' : AS} (h : gCheck args s = some (v, s')) : ∃ id, args = [.ptr id 0 0] ∧ v = .tup [] ∧
    ((s.h id = some .bld ∧ s.lim ≤ id ∧ s' = { s with h := s.h.upd id (some (.rows [[.ptr id 0 0, .nils]])) }) ∨ ∃ y, s.h id = some (.rows [[.ptr id 0 0, y]]) ∧ s' = s) := by
  unfold gCheck at h
  split at h
  case h_2 => cases h
  rename_i id
  split at h
  · rename_i hb
    split at h
    case isFalse => cases h
    rename_i hl
    cases h
    exact ⟨id, rfl, rfl, .inl ⟨hb, Nat.le_of_ble_eq_true hl, rfl⟩⟩
  · rename_i id' y hb
    split at h
    case isFalse => cases h
    rename_i he
    subst he
    cases h
    exact ⟨_, rfl, rfl, .inr ⟨y, hb, rfl⟩⟩
  · cases h

theorem check_one : GOne Try.prog 80 gCheck := by
  refine ⟨⟨_, Try.func80, by kernel_rfl, by kernel_rfl⟩, ?_, ?_⟩
  · intro args s v s' h hl
    obtain ⟨id, rfl, rfl, ⟨_, h2, rfl⟩ | ⟨y, _, rfl⟩⟩ := gCheck_inv h
    · exact ⟨Nat.le_refl _, rfl, fun j hj => upd_ne _ _ (by omega)⟩
    · exact ⟨Nat.le_refl _, rfl, fun _ _ => rfl⟩
  · intro args s v s' h hl N ρ w Vs hw ha
    obtain ⟨id, rfl, rfl, hcase⟩ := gCheck_inv h
    match Vs, ha, ha.len with
    | [V1], ha, _ =>
      have r1 : Rel ρ (.ptr id 0 0) V1 := ha.at_ 0 _ rfl
      cases r1 with
      | @ptr _ _ _ L hL =>
        rw [show 0 * L.s + 0 = 0 by omega]
        rcases hcase with ⟨hb, hlim, rfl⟩ | ⟨y, hb, rfl⟩
        · obtain ⟨L', hL', hN, hlt, c, h1, h2, h3, h4⟩ := hw.own id _ hb
          rw [hL] at hL'; cases hL'
          have hcs : c.size = 2 := by simpa using h4.len
          have c0 : c.toList[0]? = some (.pointer none) ∧ c.toList[1]? = some (.slice none 0 0) := by
            have g0 := h4.at_ 0 _ rfl
            have g1 := h4.at_ 1 _ rfl
            have e0 : c.toList[0]? = some (c.toList.getD 0 undef) := by rw [List.getD_eq_getElem?_getD, List.getElem?_eq_getElem (by simp; omega)]; rfl
            have e1 : c.toList[1]? = some (c.toList.getD 1 undef) := by rw [List.getD_eq_getElem?_getD, List.getElem?_eq_getElem (by simp; omega)]; rfl
            rw [e0, e1]
            generalize c.toList.getD 0 undef = U at g0
            generalize c.toList.getD 1 undef = U' at g1
            cases g0; cases g1
            exact ⟨rfl, rfl⟩
          have k0 : w.cell? ⟨L.b, 0, none⟩ = some (.pointer none) := by
            simp only [World.cell?, h1]; simpa using c0.1
          refine (copyCheck_calls L.b w k0 (by simp [World.shape?, h1, hcs]) (by simp [World.frozen?, h1])).mono fun e w' ⟨he, hw'⟩ => ?_
          have hset : w' = w.setCells L.b 0 [.pointer (some ⟨L.b, 0, none⟩)] := hw'
          clear hw'
          obtain ⟨c', g1, g2, g3⟩ := setCells_row [Value.pointer (some ⟨L.b, 0, none⟩)] 0 w c h1 (by simp; omega)
          obtain ⟨e1, e2, e3, e4⟩ := setCells_same L.b [Value.pointer (some ⟨L.b, 0, none⟩)] 0 w
          rw [← hset] at g1 e1 e2 e3 e4
          have far : ∀ k, k ≠ L.b → w'.heap[k]? = w.heap[k]? := fun k hk => by rw [hset]; exact setCells_far _ _ k hk
          have hl2 : c'.toList = [Value.pointer (some ⟨L.b, 0, none⟩), .slice none 0 0] := by
            rw [g3]
            have : c.toList = [.pointer none, .slice none 0 0] := by
              apply List.ext_getElem?
              intro n
              match n with
              | 0 => exact c0.1
              | 1 => exact c0.2
              | n + 2 => rw [List.getElem?_eq_none (by simp; omega), List.getElem?_eq_none (by simp)]
            rw [this]; rfl
          have hrow : RelL ρ [.ptr id 0 0, .nils] c'.toList := by
            rw [hl2]
            have p0 := Rel.ptr (ρ := ρ) (id := id) (i := 0) (k := 0) hL
            rw [show 0 * L.s + 0 = 0 by omega] at p0
            exact .cons p0 (.cons .nils .nil)
          have hok := put_ok hw (by rw [hb]; simp) hL e4 far (b' := .rows [[.ptr id 0 0, .nils]]) (okB_flat (by rw [h2]; exact Flat.one hrow rfl) (by rw [h3]; rfl) g1)
          exact ⟨_, ρ, he, Ext.refl ρ, .tup (vs := #[]) rfl (fun j x q => by cases q), hok, ⟨e1, e2, e3, by omega, fun k hk => far k (by omega)⟩, fun _ _ => rfl⟩
        · obtain ⟨d2, d, hd⟩ := hw.cell hb hL (i := 0) rfl
          obtain ⟨q1, q2, q3⟩ := hd 0 _ rfl
          rw [show 0 * L.s + 0 = 0 by omega] at q3
          have hdv : d 0 = .pointer (some ⟨L.b, 0, none⟩) := by
            generalize d 0 = U at q2
            cases q2 with
            | @ptr _ _ _ M hM =>
              rw [hL] at hM; cases hM
              rw [show 0 * L.s + 0 = 0 by omega]
          rw [hdv] at q3
          refine (copyCheck_used L.b w q3).mono fun e w' ⟨he, hw'⟩ => ?_
          subst hw'
          exact ⟨_, ρ, he, Ext.refl ρ, .tup (vs := #[]) rfl (fun j x q => by cases q), hw, Below.refl _ _, fun id _ => rfl⟩

end
end Go.Proofs.Ytgcciohenncplaa.Ai
