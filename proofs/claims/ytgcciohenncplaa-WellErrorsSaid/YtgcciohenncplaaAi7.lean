/- Operations that look at no memory are right: cuts, structs, and all together. -/
import Derived.Test.YtgcciohenncplaaAi6
namespace Go.Proofs.Ytgcciohenncplaa.Ai
noncomputable section
open Go.RowKit (Below)
section
variable {P : Program} {ρ : Env} {F : Fr} {a : Act} {o : Oper} {v : AV}

theorem sb_run {isS : Bool} {len cap : Nat} {lo hi : Option Value} {l h : Nat} (hh : (hi = none ∧ h = len) ∨ (∃ k, hi = some (.int k h)) ∧ h ≤ cap) (hl : (lo = none ∧ l = 0) ∨ (∃ k, lo = some (.int k l)) ∧ l ≤ h) (w : World) :
    (Instr.sliceBounds isS len cap lo hi none).run P w = .ok (l, h, cap) w := by
  rcases hh with ⟨rfl, rfl⟩ | ⟨⟨k, rfl⟩, hc⟩ <;> rcases hl with ⟨rfl, rfl⟩ | ⟨⟨k', rfl⟩, hc'⟩ <;> simp_all [Instr.sliceBounds, Instr.sliceBound, asIntOf]

theorem bnd_ok (hF : FrOk ρ F a) {lo : Option Operand} {lo' : Option Opd} (hc : cOo lo = some lo') {d l : Nat} (hb : bound F d lo' = some l) : (lo.map a.eval = none ∧ l = d) ∨ ∃ k, lo.map a.eval = some (.int k l) := by
  cases lo with
  | none =>
    simp only [cOo, Option.some.injEq] at hc
    subst hc
    simp only [bound, Option.some.injEq] at hb
    exact .inl ⟨rfl, hb.symm⟩
  | some x =>
    simp only [cOo, Option.map_eq_some_iff] at hc
    obtain ⟨x', hx, rfl⟩ := hc
    simp only [bound] at hb
    obtain ⟨k, hk⟩ := asNat_ok hb (hF.ev hx)
    exact .inr ⟨k, by simp [hk]⟩

theorem p_cuts (hF : FrOk ρ F a) {t : TypeId} (hu : P.underlying t = some .string) {x : Operand} {lo hi : Option Operand} {x' : Opd} {lo' hi' : Option Opd} (ho : o.op = .slice t x lo hi none) (hx : cO x = some x') (hl : cOo lo = some lo') (hh : cOo hi = some hi') (hv : (POp.cuts x' lo' hi').ev F = some v) : ∃ V, Rel ρ v V ∧ Yld P a o V := by
  have h1 := hF.ev hx
  simp only [POp.ev] at hv
  split at hv
  case h_2 => cases hv
  rename_i l n e hn
  rw [e] at h1
  obtain ⟨s, hX, rfl⟩ := h1.of_str
  split at hv
  case h_2 => cases hv
  rename_i m hm
  split at hv
  case isFalse => cases hv
  rename_i hc
  cases hv
  have b1 := bnd_ok hF hl hn
  have b2 := bnd_ok hF hh hm
  have hs : s.data.toList.length = s.size := by simp
  have run := sb_run (P := P) (isS := false) (len := s.size) (cap := s.size) (lo := lo.map a.eval) (hi := hi.map a.eval) (l := n) (h := m)
    (by rcases b2 with ⟨q, r⟩ | q; exact .inl ⟨q, by rw [r, hs]⟩; exact .inr ⟨q, by rw [← hs]; exact hc.2⟩) (by rcases b1 with ⟨q, r⟩ | q; exact .inl ⟨q, r⟩; exact .inr ⟨q, hc.1⟩)
  refine ⟨.string (s.extract n m), .str ?_, fun w => ?_⟩
  · rw [ByteArray.data_extract, Array.toList_extract]
    simp [List.extract_eq_take_drop, List.drop_take]
  · simp [execOp, ho, hX, Instr.sliceAt, Instr.slice, run_underlying' hu, run]

theorem slice_addr {x y : Nat} (b n : Nat) : (⟨b, n, none⟩ : Addr).add (x * y) = ⟨b, n + x * y, none⟩ := by unfold Addr.add; split <;> simp_all

theorem cut_run {t e : TypeId} (hu : P.underlying t = some (.slice e)) {sz : Nat} (hs : szT P e = some sz) {ad : Option Addr} {len rc : Nat} {lo hi : Option Value} {l h : Nat}
    (hh : (hi = none ∧ h = len) ∨ (∃ k, hi = some (.int k h)) ∧ h ≤ rc) (hl : (lo = none ∧ l = 0) ∨ (∃ k, lo = some (.int k l)) ∧ l ≤ h) (w : World) :
    (Instr.sliceAt t (.slice ad len rc) lo hi none).run P w = .ok (.slice (if rc = l then ad else ad.map (·.add (l * sz))) (h - l) (rc - l)) w := by
  simp [Instr.sliceAt, Instr.slice, run_underlying' hu, sb_run hh hl, run_sizeOf' hs]
theorem cut0_run {t e : TypeId} (hu : P.underlying t = some (.slice e)) {sz : Nat} (hs : szT P e = some sz) {ad : Option Addr} {len rc : Nat} {lo hi mx : Option Value}
    (hh : (hi = none ∧ False) ∨ (∃ k, hi = some (.int k 0))) (hl : (lo = none) ∨ (∃ k, lo = some (.int k 0))) (hm : ∃ k, mx = some (.int k 0)) (w : World) :
    (Instr.sliceAt t (.slice ad len rc) lo hi mx).run P w = .ok (.slice ad 0 0) w := by
  obtain ⟨km, rfl⟩ := hm
  rcases hh with ⟨_, f⟩ | ⟨k, rfl⟩
  · exact f.elim
  rcases hl with rfl | ⟨k', rfl⟩ <;> simp [Instr.sliceAt, Instr.slice, run_underlying' hu, Instr.sliceBounds, Instr.sliceBound, asIntOf, run_sizeOf' hs]

theorem opt_ok (hF : FrOk ρ F a) {hi : Option Operand} {hi' : Option Opd} (hc : cOo hi = some hi') {b : Option Nat} (hb : optNat F hi' = some b) :
    (hi.map a.eval = none ∧ b = none) ∨ ∃ k n, hi.map a.eval = some (.int k (n : Nat)) ∧ b = some n := by
  cases hi with
  | none =>
    simp only [cOo, Option.some.injEq] at hc
    subst hc
    simp only [optNat, Option.some.injEq] at hb
    exact .inl ⟨rfl, hb.symm⟩
  | some x =>
    simp only [cOo, Option.map_eq_some_iff] at hc
    obtain ⟨x', hx, rfl⟩ := hc
    simp only [optNat, Option.map_eq_some_iff] at hb
    obtain ⟨n, hn, rfl⟩ := hb
    obtain ⟨k, hk⟩ := asNat_ok hn (hF.ev hx)
    exact .inr ⟨k, n, by simp [hk], rfl⟩

theorem p_cut (hF : FrOk ρ F a) {t e : TypeId} (hu : P.underlying t = some (.slice e)) {sz : Nat} (hs : szT P e = some sz) {x : Operand} {lo hi mx : Option Operand} {x' : Opd} {lo' hi' mx' : Option Opd} (ho : o.op = .slice t x lo hi mx) (hx : cO x = some x') (hl : cOo lo = some lo') (hh : cOo hi = some hi') (hm : cOo mx = some mx') (hv : (POp.cut sz x' lo' hi' mx').ev F = some v) : ∃ V, Rel ρ v V ∧ Yld P a o V := by
  have h1 := hF.ev hx
  simp only [POp.ev] at hv
  split at hv
  case h_2 => cases hv
  rename_i l h m hln hhn hmn
  have bl := bnd_ok hF hl hln
  have bh := opt_ok hF hh hhn
  have bm := opt_ok hF hm hmn
  generalize hX : a.eval x = X at h1
  generalize hy : x'.ev F = y at h1 hv
  have ex : ∀ w V, (Instr.sliceAt t X (lo.map a.eval) (hi.map a.eval) (mx.map a.eval)).run P w = .ok V w → (execOp a.eval o).run P w = .ok (.value V) w := by
    intro w V hr
    simp [execOp, ho, hX, hr]
  have lo0 : l = 0 → (lo.map a.eval = none) ∨ (∃ k, lo.map a.eval = some (.int k 0)) := by
    rintro rfl
    rcases bl with ⟨q, _⟩ | ⟨k, q⟩
    · exact .inl q
    · exact .inr ⟨k, q⟩
  have lo1 : ∀ h : Nat, l ≤ h → (lo.map a.eval = none ∧ l = 0) ∨ (∃ k, lo.map a.eval = some (.int k l)) ∧ l ≤ h := by
    intro h hle
    rcases bl with ⟨q, r⟩ | q
    · exact .inl ⟨q, r⟩
    · exact .inr ⟨q, hle⟩
  have hi1 : ∀ n rc : Nat, h.getD n ≤ rc → (hi.map a.eval = none ∧ h.getD n = n) ∨ (∃ k, hi.map a.eval = some (.int k (h.getD n))) ∧ h.getD n ≤ rc := by
    intro n rc hle
    rcases bh with ⟨q, rfl⟩ | ⟨k, n', q, rfl⟩
    · exact .inl ⟨q, rfl⟩
    · exact .inr ⟨⟨k, q⟩, hle⟩
  have mx0 : m = none → mx.map a.eval = none := by
    rintro rfl
    rcases bm with ⟨q, _⟩ | ⟨k, n, _, q⟩
    · exact q
    · cases q
  have mx1 : m = some 0 → ∃ k, mx.map a.eval = some (.int k 0) := by
    rintro rfl
    rcases bm with ⟨_, q⟩ | ⟨k, n, q, r⟩
    · cases q
    · cases r; exact ⟨k, q⟩
  have hi0 : h = some 0 → (hi.map a.eval = none ∧ False) ∨ (∃ k, hi.map a.eval = some (.int k 0)) := by
    rintro rfl
    rcases bh with ⟨_, q⟩ | ⟨k, n, q, r⟩
    · cases q
    · cases r; exact .inr ⟨k, q⟩
  unfold cutA at hv
  split at hv
  · -- nil
    cases h1
    split at hv
    case isFalse => cases hv
    rename_i hc
    cases hv
    have r := cut_run (P := P) hu hs (ad := none) (len := 0) (rc := 0) (hi1 0 0 (by omega)) (lo1 _ (by omega))
    refine ⟨_, .nils, fun w => ex w _ ?_⟩
    rw [mx0 rfl, r w, hc.1, hc.2]; rfl
  · cases h1
    split at hv
    case isFalse => cases hv
    rename_i hc
    cases hv
    obtain ⟨c1, c2, c3⟩ := hc
    exact ⟨_, .nils, fun w => ex w _ (cut0_run hu hs (hi0 c2) (lo0 c1) (mx1 (by rw [c3])) w)⟩
  · cases h1
    split at hv
    case isFalse => cases hv
    rename_i ad hc
    cases hv
    have r := cut_run (P := P) hu hs (ad := some ad) (len := 0) (rc := 0) (hi1 0 0 (by omega)) (lo1 _ (by omega))
    refine ⟨_, .emp (a := ad), fun w => ex w _ ?_⟩
    rw [mx0 rfl, r w, hc.1, hc.2]; rfl
  · cases h1
    split at hv
    case isFalse => cases hv
    rename_i hc
    cases hv
    obtain ⟨c1, c2, c3⟩ := hc
    exact ⟨_, .emp, fun w => ex w _ (cut0_run hu hs (hi0 c2) (lo0 c1) (mx1 (by rw [c3])) w)⟩
  · rename_i id i n z tt
    simp only at hv
    split at hv
    case isFalse => cases hv
    rename_i hc
    cases hv
    obtain ⟨c1, c2, c3, c4, rfl⟩ := hc
    cases h1 with
    | @sl _ _ _ rc _ L hL hn ht hf =>
      have r := cut_run (P := P) hu hs (ad := some ⟨L.b, i * L.s, none⟩) (len := n) (rc := rc) (hi1 n rc (by omega)) (lo1 _ c1)
      have e : (if rc = l then some (⟨L.b, i * L.s, none⟩ : Addr) else (some (⟨L.b, i * L.s, none⟩ : Addr)).map (·.add (l * L.s))) = some ⟨L.b, (i + l) * L.s, none⟩ := by
        rw [Option.map_some, slice_addr, Nat.add_mul]
        split
        · have : l = 0 := by omega
          subst this; simp
        · rfl
      refine ⟨_, .sl hL (rc := rc - l) (by omega) (fun q => ?_) (fun q => ?_), fun w => ex w _ ?_⟩
      · have := ht q
        rcases c4 with c | c
        · rw [c] at q; cases q
        · omega
      · have := hf q; omega
      · rw [mx0 rfl, r w, e]
  · cases h1
    split at hv
    case isFalse => cases hv
    rename_i hc
    cases hv
    obtain ⟨c1, c2, c3⟩ := hc
    exact ⟨_, .emp, fun w => ex w _ (cut0_run hu hs (hi0 c2) (lo0 c1) (mx1 (by rw [c3])) w)⟩
  · rename_i rows
    simp only at hv
    split at hv
    case isFalse => cases hv
    rename_i hc
    cases hv
    obtain ⟨c1, c2, c3⟩ := hc
    cases h1 with
    | @ro0 ad rc =>
      have hh0 : h.getD 0 = 0 := by simpa using c2
      have hl0 : l = 0 := by simp at c1 c2; omega
      have r := cut_run (P := P) hu hs (ad := some ad) (len := 0) (rc := rc) (hi1 0 rc (by simp at c2; omega)) (lo1 _ (by simpa using c1))
      subst hl0
      refine ⟨_, by simpa using (Rel.ro0 (a := ad) (rc := rc)), fun w => ex w _ ?_⟩
      rw [mx0 rfl, r w, hh0]
      simp [Addr.add]
    | @ro _ b o' s rc c hn hlen hi' hr =>
      have r := cut_run (P := P) hu hs (ad := some ⟨b, o', none⟩) (len := rows.length) (rc := rc) (hi1 _ rc (by omega)) (lo1 _ c1)
      by_cases hemp : (rows.take (h.getD rows.length)).drop l = []
      · rw [hemp]
        have hz : h.getD rows.length - l = 0 := by
          have := congrArg List.length hemp
          simp at this; omega
        rw [hz] at r
        by_cases hrc : rc = l
        · exact ⟨_, .ro0 (a := ⟨b, o', none⟩) (rc := rc - l), fun w => ex w _ (by rw [mx0 rfl, r w, if_pos hrc])⟩
        · exact ⟨_, .ro0 (a := (⟨b, o', none⟩ : Addr).add (l * sz)) (rc := rc - l), fun w => ex w _ (by rw [mx0 rfl, r w, if_neg hrc]; rfl)⟩
      · have hlt : l < h.getD rows.length := by
          rcases Nat.lt_or_ge l (h.getD rows.length) with q | q
          · exact q
          · exact absurd (List.drop_of_length_le (by simp; omega)) hemp
        have hsz : s = sz := by
          have key : ∀ rws : List (List AV), headLen sz rws = true → ∀ r0, rws[0]? = some r0 → r0.length = sz := by
            intro rws h r0 h0
            cases rws with
            | nil => cases h0
            | cons x y => simp only [List.getElem?_cons_zero, Option.some.injEq] at h0; subst h0; simpa [headLen] using h
          have h0 : rows[0]? = some (rows[0]'(by omega)) := List.getElem?_eq_getElem (by omega)
          rw [← hlen 0 _ h0, key rows c3 _ h0]
        subst hsz
        have hget : ∀ (i : Nat) row, ((rows.take (h.getD rows.length)).drop l)[i]? = some row → rows[l + i]? = some row := by
          intro i row hrow
          rw [List.getElem?_drop, List.getElem?_take] at hrow
          split at hrow
          · exact hrow
          · cases hrow
        have hlen2 : ((rows.take (h.getD rows.length)).drop l).length = h.getD rows.length - l := by simp; omega
        refine ⟨.slice (some ⟨b, o' + l * s, none⟩) (h.getD rows.length - l) (rc - l), ?_, fun w => ex w _ ?_⟩
        · rw [← hlen2]
          refine .ro (s := s) (c := fun q => c (l * s + q)) (by omega) (fun i row hrow => hlen _ row (hget i row hrow)) (fun i row j hrow hj => ?_) (fun i row j y hrow hy => ?_)
          · have := hi' _ row j (hget i row hrow) hj
            rw [show o' + l * s + (i * s + j) = o' + ((l + i) * s + j) by rw [Nat.add_mul]; omega, this]
            congr 1; rw [Nat.add_mul]; congr 1; omega
          · have := hr _ row j y (hget i row hrow) hy
            rw [show l * s + (i * s + j) = (l + i) * s + j by rw [Nat.add_mul]; omega]; exact this
        · rw [mx0 rfl, r w, if_neg (by omega), Option.map_some, slice_addr]
  · cases h1 <;> (split at hv; case isFalse => cases hv)
    all_goals (rename_i hc; cases hv; obtain ⟨c1, c2, c3⟩ := hc; exact ⟨_, .emp, fun w => ex w _ (cut0_run hu hs (hi0 c2) (lo0 c1) (mx1 (by rw [c3])) w)⟩)
  · cases hv
end
end
end Go.Proofs.Ytgcciohenncplaa.Ai
