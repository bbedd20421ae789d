/- Functions that are known otherwise: slices.Grow of nothing. -/
import Derived.Test.YtgcciohenncplaaAg6
import Derived.Lib.AppendZerosOnto
namespace Go.Proofs.Ytgcciohenncplaa.Ai
noncomputable section
open Go.RowKit

/-- The element's type, and its zero value's cells. -/
def wT : Nat := 165
def wZ : List AV := [.str [], .str [], .int .i64 0]
theorem infoW : ∃ i z, Try.prog.info? wT = some i ∧ i.zero = some z ∧ i.size = 3 ∧ i.bytes = 40 ∧ z.cells = #[.string ⟨#[]⟩, .string ⟨#[]⟩, .int .i64 0] := by
  have h : (Try.prog.info? wT).map (fun i => (i.size, i.bytes)) = some (3, 40) := by kernel_rfl
  obtain ⟨i, hi, h2⟩ := Option.map_eq_some_iff.1 h
  have h' : (Try.prog.info? wT).bind (fun i => i.zero.map fun z => z.cells) = some #[.string ⟨#[]⟩, .string ⟨#[]⟩, .int .i64 0] := by kernel_rfl
  rw [hi] at h'
  simp only [Option.bind_some] at h'
  obtain ⟨z, hz, h3⟩ := Option.map_eq_some_iff.1 h'
  simp only [Prod.mk.injEq] at h2
  exact ⟨i, z, hi, hz, h2.1, h2.2, h3⟩

set_option maxHeartbeats 2000000 in
set_option maxRecDepth 100000 in
theorem grow_none (w : World) :
    Calls Try.prog 129 #[.slice none 0 0, .int .i64 0] w fun e w' => e = .returned (.slice none 0 0) ∧ w' = w := by
  go_enter Try.func129, Try.ntmps129
  go_wp2
  go_ret
  exact ⟨rfl, rfl⟩

set_option maxHeartbeats 4000000 in
set_option maxRecDepth 100000 in
theorem grow_some (n : Nat) (hn : 0 < n) (hbig : n * 40 ≤ 140737488355328) (z : Value) (i0 : TypeInfo) (hi0 : Try.prog.info? wT = some i0) (hz0 : i0.zero = some z) (hs0 : i0.size = 3) (hb0 : i0.bytes = 40) (w : World) :
    Calls Try.prog 129 #[.slice none 0 0, .int .i64 n] w fun e w' =>
      e = .returned (.slice (some ⟨w.heap.size, 0, none⟩) 0 (grownCap w n 0 wT)) ∧
      w' = w.drew.alloc (.cells (Builtin.zeroCells z.cells n ++ Builtin.zeroCells z.cells (grownCap w n 0 wT - n)) wT) := by
  have h1 : ¬ ((n : Int) < 0) := by omega
  have h3 : wrap64 ((n : Int) - 0) = (n : Int) := by unfold wrap64; omega
  have h4 : (n : Int) > 0 := by omega
  have hu : Try.prog.underlying 162 = some (.slice wT) := by kernel_rfl
  have hi : Try.prog.underlying 3 = some (.int .i64) := by kernel_rfl
  have z25 : ∀ w, (Go.sizeOf wT).run Try.prog w = .ok i0.size w := fun w => by simp [Go.sizeOf, typeInfo, hi0]
  have hold : (Builtin.firstCells i0.size 0 (.slice none 0 0)).run Try.prog w.drew = .ok (#[] : Array Value) w.drew := run_firstCells_none w.drew i0.size 0 0 0
  have hrz : ∀ ty, (Builtin.append_ #[162, 3] ty #[.slice none 0 0, .int .i64 n]).run Try.prog w =
      .ok (.slice (some ⟨w.heap.size, 0, none⟩) n (grownCap w n 0 wT)) (w.drew.alloc (.cells (Builtin.zeroCells z.cells n ++ Builtin.zeroCells z.cells (grownCap w n 0 wT - n)) wT)) := fun ty => by
    have h := Lib.run_append_grow_zeros w 162 3 ty wT i0 z .i64 .i64 hu hi hi0 hz0 none 0 0 [] hold n (by omega) (by omega) (by omega) (by omega) (by rw [hb0]; omega) (growslice_fits (by omega) (by rw [hb0, Nat.zero_add]; exact hbig))
    rw [Nat.zero_add] at h
    simpa using h
  have hGn : n ≤ grownCap w n 0 wT := grownCap_ge w _ _ _
  have hG63 : grownCap w n 0 wT ≤ 9223372036854775807 := by
    have := grownCap_le_maxLen w n 0 wT (by unfold maxLen; omega)
    unfold maxLen at this
    omega
  generalize grownCap w n 0 wT = G at hrz hGn hG63 ⊢
  go_enter Try.func129, Try.ntmps129
  go_wp2_with (at_builtin; refine wpList_append_run rfl _ _ _ _ rfl _ _ _ _ _ rfl rfl (hrz _) ?_)
  all_goals (go_ret; exact ⟨rfl, rfl⟩)

def gGrow (args : List AV) (s : AS) : Option (AV × AS) :=
  match args with
  | [.nils, .int .i64 (.ofNat n)] => match n with
    | 0 => some (.nils, s)
    | m + 1 => if m + 1 ≤ 1000000 then some (.sl s.n 0 0 3 false, { s with n := s.n + 1, h := s.h.upd s.n (some (.rows (List.replicate (m + 1) wZ))) }) else none
  | _ => none

theorem flat_rep {ρ : Env} {row : List AV} {cs : List Value} (h : RelL ρ row cs) (hs : scals row = true) : ∀ (n : Nat), Flat ρ row.length (List.replicate n row) (List.replicate n cs).flatten
  | 0 => ⟨by simp, fun i r h => (by cases h), fun i r k x h _ => (by cases h)⟩
  | n + 1 => by
    have := flat_app (Flat.one h hs) (flat_rep h hs n)
    rw [List.replicate_succ, List.replicate_succ, List.flatten_cons]
    exact this

theorem grow_one : GOne Try.prog 129 gGrow := by
  have inv : ∀ args s v s', gGrow args s = some (v, s') → (args = [.nils, .int .i64 0] ∧ v = .nils ∧ s' = s) ∨
      ∃ n : Nat, 0 < n ∧ n ≤ 1000000 ∧ args = [.nils, .int .i64 n] ∧ v = .sl s.n 0 0 3 false ∧ s' = { s with n := s.n + 1, h := s.h.upd s.n (some (.rows (List.replicate n wZ))) } := by
    intro args s v s' h
    unfold gGrow at h
    split at h
    case h_2 => cases h
    split at h
    · cases h; exact .inl ⟨rfl, rfl, rfl⟩
    · rename_i m
      split at h
      case isFalse => cases h
      rename_i hm
      cases h
      exact .inr ⟨m + 1, by omega, hm, rfl, rfl, rfl⟩
  refine ⟨⟨_, Try.func129, by kernel_rfl, by kernel_rfl⟩, ?_, ?_⟩
  · intro args s v s' h hl
    rcases inv args s v s' h with ⟨rfl, rfl, rfl⟩ | ⟨n, h1, h2, rfl, rfl, rfl⟩
    · exact ⟨Nat.le_refl _, rfl, fun _ _ => rfl⟩
    · exact ⟨Nat.le_succ _, rfl, fun j hj => upd_ne _ _ (by omega)⟩
  · intro args s v s' h hl N ρ w Vs hw ha
    rcases inv args s v s' h with ⟨rfl, rfl, rfl⟩ | ⟨n, hn, h2, rfl, rfl, rfl⟩
    · match Vs, ha, ha.len with
      | [V1, V2], ha, _ =>
        have r1 : Rel ρ .nils V1 := ha.at_ 0 _ rfl
        have r2 := (show Rel ρ (.int .i64 0) V2 from ha.at_ 1 _ rfl).of_int
        cases r1
        subst r2
        exact (grow_none w).mono fun e w' ⟨he, hw'⟩ => ⟨_, ρ, he, Ext.refl ρ, .nils, by rw [hw']; exact hw, by rw [hw']; exact Below.refl _ _, fun _ _ => rfl⟩
    · match Vs, ha, ha.len with
      | [V1, V2], ha, _ =>
        have r1 : Rel ρ .nils V1 := ha.at_ 0 _ rfl
        have r2 := (show Rel ρ (.int .i64 n) V2 from ha.at_ 1 _ rfl).of_int
        cases r1
        subst r2
        obtain ⟨i, z, hi, hz, hs, hb, hc⟩ := infoW
        refine (grow_some n hn (by omega) z i hi hz hs hb w).mono fun e w' ⟨he, hw'⟩ => ?_
        have hge : n ≤ grownCap w n 0 wT := grownCap_ge w _ _ _
        let L : Loc := ⟨w.heap.size, 3, grownCap w n 0 wT⟩
        have hnew : ρ.loc s.n = none := hw.new s.n (Nat.le_refl _)
        have hx := Env.put_ext (L := L) hnew
        have hrow : RelL (ρ.put s.n L) wZ z.cells.toList := by
          rw [hc]
          exact .cons (.str rfl) (.cons (.str rfl) (.cons .int .nil))
        have hzn : Builtin.zeroCells z.cells n = (List.replicate n z.cells.toList).flatten.toArray := zeros_eq z.cells n
        have hfl := flat_rep hrow rfl n
        rw [hzn] at hw'
        have hlen := hfl.len
        have hzs : z.cells.size = 3 := by rw [hc]; rfl
        have hok := new_ok (L := L) (hw.bump.heap (w' := w.drew) rfl) (aid := s.n) (Nat.lt_succ_self _) hnew rfl
          (okB_spare (L := L) (T := wT) (rs := List.replicate n wZ) (spare := Builtin.zeroCells z.cells (grownCap w n 0 wT - n)) hfl (by simpa using hge)
            (by rw [hlen, size_zeroCells, hzs]; simp only [List.length_replicate, L]; show n * 3 + _ = _; omega) (heap_last w.drew _))
        refine ⟨_, ρ.put s.n L, he, hx, ?_, by rw [hw']; exact hok, by rw [hw']; exact ((Below.refl _ _).drew).alloc hw.size _, fun id hid => Env.put_ne (by omega)⟩
        have := Rel.sl (ρ := ρ.put s.n L) (id := s.n) (i := 0) (n := 0) (rc := grownCap w n 0 wT) (t := false) (L := L) Env.put_self (Nat.zero_le _) (fun q => by cases q) (fun _ => by simp [L])
        simpa [L] using this

end
end Go.Proofs.Ytgcciohenncplaa.Ai
