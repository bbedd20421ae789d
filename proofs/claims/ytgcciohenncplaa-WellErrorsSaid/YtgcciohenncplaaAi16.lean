/- Calls: what a call leaves, and a call whose own blocks are frozen behind it. -/
import Derived.Test.YtgcciohenncplaaAi15
namespace Go.Proofs.Ytgcciohenncplaa.Ai
noncomputable section
open Go.RowKit (Below)

/-- May this function be entered? -/
def Enters (P : Program) (f : Nat) : Prop := ∃ fn, P.funcs[f]? = some fn ∧ (fn.name == "runtime.NumGoroutine") = false ∧ fn.body.isSome = true

/-- Calls are right. -/
structure CallOk (P : Program) (call : Nat → List AV → M AV) : Prop where
  stat : ∀ f args s v s', call f args s = some (v, s') → s.lim ≤ s.n → s.n ≤ s'.n ∧ s'.lim = s.lim ∧ ∀ id, id < s.lim → s'.h id = s.h id
  into : ∀ f args s v s', call f args s = some (v, s') → Enters P f
  run : ∀ f args s v s', call f args s = some (v, s') → s.lim ≤ s.n → ∀ N ρ w (Vs : List Value), OkW N ρ s w → RelL ρ args Vs →
    Calls P f Vs.toArray w fun e w' => ∃ V ρ', e = .returned V ∧ Done P N ρ w v s' (fun id => s.n ≤ id) V w' ρ'

section
open Classical
/-- The environment with all blocks from 'lo' on frozen. -/
noncomputable def Env.frz (ρ : Env) (h : Heap) (lo : Nat) (w : World) : Env where
  loc := ρ.loc
  imm := fun b o => match ρ.imm b o with
    | some v => some v
    | none => if (∃ id L rs, lo ≤ id ∧ h id = some (.rows rs) ∧ ρ.loc id = some L ∧ L.b = b) then w.cell? ⟨b, o, none⟩ else none
end

theorem frz_ext {ρ : Env} {h : Heap} {lo : Nat} {w : World} : Ext ρ (ρ.frz h lo w) := ⟨fun _ _ h => h, fun b o v hv => by simp only [Env.frz, hv]⟩
theorem frz_imm {ρ : Env} {h : Heap} {lo : Nat} {w : World} (hi : ∀ b o v, ρ.imm b o = some v → w.cell? ⟨b, o, none⟩ = some v) {id : Nat} (hlo : lo ≤ id) {rs : List (List AV)} (hrs : h id = some (.rows rs)) {L : Loc} (hL : ρ.loc id = some L) {o : Nat} {v : Value} (hc : w.cell? ⟨L.b, o, none⟩ = some v) :
    (ρ.frz h lo w).imm L.b o = some v := by
  unfold Env.frz
  cases hm : ρ.imm L.b o with
  | some u =>
    have := hi _ _ _ hm
    rw [hc] at this
    simp only [hm]; exact this.symm
  | none =>
    simp only [hm]
    rw [if_pos ⟨id, L, rs, hlo, hrs, hL, rfl⟩]; exact hc

theorem mapO_len {α β : Type} {f : α → Option β} {l : List α} {r : List β} (h : mapO f l = some r) : r.length = l.length := (mapO_get h).1
theorem mapO_at {α β : Type} {f : α → Option β} {l : List α} {r : List β} (h : mapO f l = some r) {j : Nat} {y : β} (hj : r[j]? = some y) : ∃ x, l[j]? = some x ∧ f x = some y := by
  have hl : j < l.length := by rw [← mapO_len h]; exact (List.getElem?_eq_some_iff.1 hj).1
  obtain ⟨y', h1, h2⟩ := (mapO_get h).2 j _ (List.getElem?_eq_getElem hl)
  rw [hj] at h1; cases h1
  exact ⟨_, List.getElem?_eq_getElem hl, h2⟩

theorem freeze_ok {N : Nat} {ρ : Env} {s : AS} {w : World} (hw : OkW N ρ s w) (lo : Nat) : ∀ (d : Nat) (v v' : AV) (V : Value), Rel ρ v V → freeze s.h lo d v = some v' → Rel (ρ.frz s.h lo w) v' V
  | 0, v, v', V, _, h => by simp only [freeze] at h; cases h
  | d + 1, v, v', V, hr, h => by
    have hx : Ext ρ (ρ.frz s.h lo w) := frz_ext
    have lst : ∀ (cs r : List AV) (vs : List Value), RelL ρ cs vs → mapO (freeze s.h lo d) cs = some r → RelL (ρ.frz s.h lo w) r vs := by
      intro cs r vs hl hm
      refine ⟨by rw [hl.len, mapO_len hm], fun j y hy => ?_⟩
      obtain ⟨x, hx1, hx2⟩ := mapO_at hm hy
      exact freeze_ok hw lo d x y _ (hl.at_ j x hx1) hx2
    unfold freeze at h
    split at h
    · rename_i id i n z t
      split at h
      · cases h; exact hr.mono hx
      · rename_i hlo
        split at h
        case h_2 => cases h
        rename_i rs hrs
        split at h
        case isFalse => cases h
        rename_i hle
        split at h
        case h_2 => cases h
        rename_i rows hrows
        cases h
        cases hr with
        | @sl _ _ _ rc _ L hL hn ht hf =>
          have hrl : rows.length = n := by rw [mapO_len hrows]; simp; omega
          obtain ⟨L', hL', _, _, c, T, h1, h2, h3, h4, h5⟩ := hw.own id _ hrs
          rw [hL] at hL'; cases hL'
          have hat : ∀ (j : Nat) row', rows[j]? = some row' → ∃ row, rs[i + j]? = some row ∧ mapO (freeze s.h lo d) row = some row' := by
            intro j row' hj
            obtain ⟨row, g1, g2⟩ := mapO_at hrows hj
            rw [List.getElem?_take] at g1
            split at g1
            · rw [List.getElem?_drop] at g1; exact ⟨row, g1, g2⟩
            · cases g1
          rw [← hrl]
          refine .ro (s := L.s) (c := fun q => c.getD (i * L.s + q) undef) (by rw [hrl]; exact hn) (fun j row' hj => ?_) (fun j row' k hj hk => ?_) (fun j row' k x hj hk => ?_)
          · obtain ⟨row, g1, g2⟩ := hat j row' hj
            rw [mapO_len g2]; exact h4 _ row g1
          · obtain ⟨row, g1, g2⟩ := hat j row' hj
            have hi : i + j < L.cap := Nat.lt_of_lt_of_le (List.getElem?_eq_some_iff.1 g1).1 h3
            have hlt := mul_lt hi hk
            rw [Nat.add_mul] at hlt
            refine frz_imm hw.imm (by omega) hrs hL ?_
            rw [show i * L.s + (j * L.s + k) = i * L.s + j * L.s + k by omega]
            simp [World.cell?, h1, Array.getD_eq_getD_getElem?, Array.getElem?_eq_getElem (show i * L.s + j * L.s + k < c.size by omega)]
          · obtain ⟨row, g1, g2⟩ := hat j row' hj
            obtain ⟨y, y1, y2⟩ := mapO_at g2 hk
            have := (h5 _ row k y g1 y1).2
            refine freeze_ok hw lo d y x _ ?_ y2
            rw [show i * L.s + (j * L.s + k) = (i + j) * L.s + k by rw [Nat.add_mul]; omega]; exact this
    · rename_i id i k
      split at h
      · cases h; exact hr.mono hx
      · rename_i hlo
        split at h
        case h_2 => cases h
        rename_i rs hrs
        split at h
        case h_2 => cases h
        rename_i row hrow
        split at h
        case h_2 => cases h
        rename_i r hr'
        cases h
        cases hr with
        | @ptr _ _ _ L hL =>
          obtain ⟨hrl, dd, hd⟩ := hw.cell hrs hL hrow
          refine .rptr (c := dd) (fun j hj => ?_) (fun j x hx' => ?_)
          · have hj' : j < row.length := by rw [← mapO_len hr']; exact hj
            exact frz_imm hw.imm (by omega) hrs hL (hd j _ (List.getElem?_eq_getElem hj')).2.2
          · obtain ⟨y, y1, y2⟩ := mapO_at hr' hx'
            exact freeze_ok hw lo d y x _ (hd j y y1).2.1 y2
    · rename_i id
      split at h
      · cases h; exact hr.mono hx
      · cases h
    · split at h
      case h_2 => cases h
      rename_i c hc
      cases h
      obtain ⟨vs, rfl, hl⟩ := hr.of_fn
      exact Rel.fn' (lst _ _ _ hl hc)
    · split at h
      case h_2 => cases h
      rename_i c hc
      cases h
      obtain ⟨vs, rfl, hl⟩ := hr.of_agg
      exact Rel.agg' (lst _ _ _ hl hc)
    · split at h
      case h_2 => cases h
      rename_i c hc
      cases h
      obtain ⟨vs, rfl, hl⟩ := hr.of_tup
      exact Rel.tup' (lst _ _ _ hl hc)
    · cases h; exact hr.mono hx

theorem quiet_stat {P : Program} {call : Nat → List AV → M AV} (hc : CallOk P call) {f : Nat} {args : List AV} {s s' : AS} {v : AV} (h : quiet call f args s = some (v, s')) : s.n ≤ s'.n ∧ s'.lim = s.lim ∧ s'.h = s.h := by
  unfold quiet at h
  split at h
  case h_2 => cases h
  rename_i v1 s1 h1
  split at h
  case h_2 => cases h
  cases h
  exact ⟨(hc.stat _ _ _ _ _ h1 (Nat.le_refl _)).1, rfl, rfl⟩

theorem quiet_run {P : Program} {call : Nat → List AV → M AV} (hc : CallOk P call) {f : Nat} {args : List AV} {s s' : AS} {v : AV} (h : quiet call f args s = some (v, s')) {N : Nat} {ρ : Env} {w : World} {Vs : List Value} (hw : OkW N ρ s w) (ha : RelL ρ args Vs) :
    Calls P f Vs.toArray w fun e w' => ∃ V ρ', e = .returned V ∧ Done P N ρ w v s' (fun id => s.n ≤ id) V w' ρ' := by
  unfold quiet at h
  split at h
  case h_2 => cases h
  rename_i v1 s1 h1
  split at h
  case h_2 => cases h
  rename_i v2 h2
  cases h
  obtain ⟨g1, g2, g3⟩ := hc.stat _ _ _ _ _ h1 (Nat.le_refl _)
  simp only at g1 g2 g3
  have hw0 : OkW N ρ { h := s.h, n := s.n, lim := s.n } w := ⟨hw.own, hw.inj, hw.imm, hw.sep, hw.new, hw.size⟩
  refine (hc.run _ _ _ _ _ h1 (Nat.le_refl _) N ρ w Vs hw0 ha).mono fun e w' => ?_
  rintro ⟨V, ρ', rfl, hd⟩
  have hlt : ∀ id, s.h id ≠ none → id < s.n := by
    intro id hid
    obtain ⟨b, hb⟩ := Option.ne_none_iff_exists'.1 hid
    obtain ⟨L, hL, _⟩ := hw.own id b hb
    rcases Nat.lt_or_ge id s.n with q | q
    · exact q
    · rw [hw.new id q] at hL; cases hL
  refine ⟨V, ρ'.frz s1.h s.n w', rfl, hd.ext.trans frz_ext, freeze_ok hd.ok s.n 30 v1 _ V hd.rel h2, ⟨fun id b hb => ?_, fun id id' L L' a b l1 l2 e => ?_, fun b o u hu => ?_, fun id L o a l => ?_, fun id hid => hd.ok.new id hid, hd.ok.size⟩, hd.bel, fun id hid => hd.keep id hid⟩
  · have hb' : s.h id = some b := hb
    have q := hlt id (by rw [hb']; simp)
    obtain ⟨L, a1, a2, a3, a4⟩ := hd.ok.own id b (by rw [g3 id q]; exact hb)
    exact ⟨L, a1, a2, a3, a4.mono frz_ext⟩
  · have q := hlt id a; have q' := hlt id' b
    exact hd.ok.inj id id' L L' (by rw [g3 id q]; exact a) (by rw [g3 id' q']; exact b) l1 l2 e
  · unfold Env.frz at hu
    simp only at hu
    split at hu
    · rename_i u' hm
      cases hu
      exact hd.ok.imm b o _ hm
    · split at hu
      · exact hu
      · cases hu
  · have q := hlt id a
    have al : s1.h id ≠ none := by rw [g3 id q]; exact a
    have l' : ρ'.loc id = some L := l
    have hm := hd.ok.sep id L o al l'
    unfold Env.frz
    simp only [hm]
    rw [if_neg]
    rintro ⟨id', M, rs, h3, h4, h5, h6⟩
    have := hd.ok.inj id' id M L (by rw [h4]; simp) al h5 l' h6
    omega

end
end Go.Proofs.Ytgcciohenncplaa.Ai
