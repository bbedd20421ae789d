/- Operations that look at no memory are right: all together. -/
import Derived.Test.YtgcciohenncplaaAi7
namespace Go.Proofs.Ytgcciohenncplaa.Ai
noncomputable section
open Go.RowKit (Below)
section
variable {P : Program} {ρ : Env} {F : Fr} {a : Act} {o : Oper} {v : AV}

theorem list_mapM_run {α β : Type} (g : α → Sem β) (g' : α → β) : ∀ (l : List α), (∀ x ∈ l, ∀ w, (g x).run P w = .ok (g' x) w) → ∀ w, (l.mapM g).run P w = .ok (l.map g') w
  | [], _, w => rfl
  | x :: l, h, w => by
    rw [List.mapM_cons]
    simp [h x (by simp), list_mapM_run g g' l (fun y hy => h y (by simp [hy]))]
theorem arr_mapM_run {α β : Type} (g : α → Sem β) (g' : α → β) (l : Array α) (h : ∀ x ∈ l, ∀ w, (g x).run P w = .ok (g' x) w) (w : World) : (l.mapM g).run P w = .ok (l.map g') w := by
  rw [Array.mapM_eq_mapM_toList, Sem.run_map, list_mapM_run g g' l.toList (fun x hx => h x (by simpa using hx))]
  simp only [Result.andThen_ok]
  congr 1
  exact Array.ext' (by simp)

theorem ps_ok (hF : FrOk ρ F a) (g : Nat → Option (Nat × Nat)) {ps : List (Nat × Operand)} {l : List (Nat × Nat × Opd)} (hl : l.length = ps.length ∧ ∀ (j : Nat) p, ps[j]? = some p → ∃ y, l[j]? = some y ∧ g p.1 = some (y.1, y.2.1) ∧ cO p.2 = some y.2.2)
    (place : Nat → Option (Nat × Nat)) (hg : ∀ i x, g i = some x → place i = some x) :
    (ps.map fun p => (p.1, a.eval p.2)).length = (l.map fun p => (p.1, p.2.1, p.2.2.ev F)).length ∧
    ∀ (j : Nat) p, (l.map fun p => (p.1, p.2.1, p.2.2.ev F))[j]? = some p → ∃ q, (ps.map fun p => (p.1, a.eval p.2))[j]? = some q ∧ place q.1 = some (p.1, p.2.1) ∧ Rel ρ p.2.2 q.2 := by
  refine ⟨by simp [hl.1], fun j p hp => ?_⟩
  rw [List.getElem?_map, Option.map_eq_some_iff] at hp
  obtain ⟨y, hy, rfl⟩ := hp
  have hlt : j < ps.length := by rw [← hl.1]; exact (List.getElem?_eq_some_iff.1 hy).1
  obtain ⟨y', hy', h1, h2⟩ := hl.2 j _ (List.getElem?_eq_getElem hlt)
  rw [hy] at hy'
  cases hy'
  exact ⟨(ps[j].1, a.eval ps[j].2), by rw [List.getElem?_map, List.getElem?_eq_getElem hlt]; rfl, hg _ _ h1, hF.ev h2⟩

theorem p_build (hF : FrOk ρ F a) {t : TypeId} {ps : Array (Nat × Operand)} {p : POp} (ho : o.op = .build t ps) (hc : cP P (.build t ps) = some p) (hv : p.ev F = some v) : ∃ V, Rel ρ v V ∧ Yld P a o V := by
  simp only [cP] at hc
  have hmap : (ps.map fun (x : Nat × Operand) => (x.1, a.eval x.2)).toList = ps.toList.map fun p => (p.1, a.eval p.2) := by simp
  split at hc
  · rename_i fs hu
    split at hc
    case isFalse => cases hc
    rename_i hall
    simp only [Option.bind_eq_bind, Option.bind_eq_some_iff, Option.pure_def, Option.some.injEq] at hc
    obtain ⟨z, hz, l, hl, rfl⟩ := hc
    obtain ⟨V0, hz0, hzr, hzs⟩ := zeroT_ok (ρ := ρ) hz
    simp only [POp.ev] at hv
    split at hv
    case h_2 => cases hv
    rename_i cs hcs
    cases hv
    have hm := mapO_get hl
    let place : Nat → Option (Nat × Nat) := fun i => (fs.map fun f => (f.offset, (szT P f.type).getD 0))[i]?
    have hp := ps_ok hF (fun i => do let f ← fs[i]?; pure (f.offset, (← szT P f.type))) (ps := ps.toList) (l := l) ⟨hm.1, fun j p hp => by
      obtain ⟨y, hy, he⟩ := hm.2 j p hp
      simp only [Option.bind_eq_some_iff, Option.some.injEq] at he
      obtain ⟨f, hf, s, hs, x, hx, rfl⟩ := he
      exact ⟨_, hy, by simp [hf, hs], hx⟩⟩ place (fun i x hx => by
      simp only [Option.bind_eq_bind, Option.bind_eq_some_iff, Option.pure_def, Option.some.injEq] at hx
      obtain ⟨f, hf, s, hs, rfl⟩ := hx
      simp [place, hf, hs])
    obtain ⟨us, hu1, hu2⟩ := fill_ok place _ _ z cs V0.cells.toList hcs hzr hp.1 hp.2
    refine ⟨_, Rel.agg' hu2, fun w => ?_⟩
    have hpl : ∀ w, (fs.mapM fun (f : Field) => do pure (f.offset, ← sizeOf f.type)).run P w = .ok (fs.map fun f => (f.offset, (szT P f.type).getD 0)) w := fun w => by
      refine arr_mapM_run _ (fun f => (f.offset, (szT P f.type).getD 0)) fs (fun f hf w => ?_) w
      have := Array.all_eq_true_iff_forall_mem.1 hall f hf
      obtain ⟨s, hs⟩ := Option.isSome_iff_exists.1 this
      simp [run_sizeOf' hs, hs]
    simp only [execOp, ho, Instr.build, Sem.run_bind, hz0, Result.andThen_ok, run_underlying' hu, hpl]
    have e : (Instr.fill (fun i => (fs.map fun f => (f.offset, (szT P f.type).getD 0))[i]?) V0.cells (ps.map fun (x : Nat × Operand) => (x.1, a.eval x.2)).toList) = some us.toArray := by
      have e0 : Instr.fill place V0.cells (ps.toList.map fun p => (p.1, a.eval p.2)) = some us.toArray := by
        rwa [show V0.cells.toList.toArray = V0.cells by simp] at hu1
      rw [hmap]; exact e0
    rw [e]
    simp
  · rename_i n e hu
    simp only [Option.bind_eq_bind, Option.bind_eq_some_iff, Option.pure_def, Option.some.injEq] at hc
    obtain ⟨z, hz, sz, hsz, l, hl, rfl⟩ := hc
    obtain ⟨V0, hz0, hzr, hzs⟩ := zeroT_ok (ρ := ρ) hz
    simp only [POp.ev] at hv
    split at hv
    case h_2 => cases hv
    rename_i cs hcs
    cases hv
    have hm := mapO_get hl
    have hp := ps_ok hF (fun i => some (i * sz, sz)) (ps := ps.toList) (l := l) ⟨hm.1, fun j p hp => by
      obtain ⟨y, hy, he⟩ := hm.2 j p hp
      simp only [Option.bind_eq_some_iff, Option.some.injEq] at he
      obtain ⟨x, hx, rfl⟩ := he
      exact ⟨_, hy, rfl, hx⟩⟩ (fun i => some (i * sz, sz)) (fun i x hx => hx)
    obtain ⟨us, hu1, hu2⟩ := fill_ok (fun i => some (i * sz, sz)) _ _ z cs V0.cells.toList hcs hzr hp.1 hp.2
    refine ⟨_, Rel.agg' hu2, fun w => ?_⟩
    simp only [execOp, ho, Instr.build, Sem.run_bind, hz0, Result.andThen_ok, run_underlying' hu, run_sizeOf' hsz]
    have e : (Instr.fill (fun i => some (i * sz, sz)) V0.cells (ps.map fun (x : Nat × Operand) => (x.1, a.eval x.2)).toList) = some us.toArray := by
      rw [hmap]; simpa using hu1
    rw [e]
    simp
  · cases hc

theorem cP_ok (hF : FrOk ρ F a) {p : POp} (hc : cP P o.op = some p) (hv : p.ev F = some v) : ∃ V, Rel ρ v V ∧ Yld P a o V := by
  generalize ho : o.op = op at hc
  cases op with
  | move x =>
    simp only [cP, Option.map_eq_some_iff] at hc
    obtain ⟨x', hx, rfl⟩ := hc
    simp only [POp.ev, Option.some.injEq] at hv
    subst hv
    exact ⟨_, hF.ev hx, fun w => by simp [execOp, ho]⟩
  | assign x =>
    simp only [cP, Option.map_eq_some_iff] at hc
    obtain ⟨x', hx, rfl⟩ := hc
    simp only [POp.ev, Option.some.injEq] at hv
    subst hv
    exact ⟨_, hF.ev hx, fun w => by simp [execOp, ho]⟩
  | pick c x y =>
    simp only [cP, Option.bind_eq_bind, Option.bind_eq_some_iff, Option.pure_def, Option.some.injEq] at hc
    obtain ⟨c', hc', x', hx, y', hy, rfl⟩ := hc
    exact p_pick hF ho hc' hx hy hv
  | build t ps => exact p_build hF ho hc hv
  | nilCheck x =>
    simp only [cP, Option.map_eq_some_iff] at hc
    obtain ⟨x', hx, rfl⟩ := hc
    exact p_nil hF ho hx hv
  | binOp op t x y t' =>
    simp only [cP, Option.bind_eq_bind, Option.bind_eq_some_iff] at hc
    obtain ⟨x', hx, y', hy, hc⟩ := hc
    have h1 := hF.ev hx; have h2 := hF.ev hy
    have fin : (∃ V, Rel ρ v V ∧ Gives P (do eqGuard op t x y (a.eval x) (a.eval y); binOp op t (a.eval x) (a.eval y)) V) → ∃ V, Rel ρ v V ∧ Yld P a o V := by
      rintro ⟨V, hr, hg⟩
      refine ⟨V, hr, fun w => ?_⟩
      have := hg w
      simp only [execOp, ho]
      rw [Sem.run_bind, this]
      simp
    apply fin
    unfold cBinOp at hc
    split at hc
    · simp only [Option.map_eq_some_iff] at hc
      obtain ⟨b, hb, rfl⟩ := hc
      exact cBin_ok hb hv h1 h2
    · simp only [Option.map_eq_some_iff] at hc
      obtain ⟨b, hb, rfl⟩ := hc
      exact cBin_ok hb hv h1 h2
    · rename_i hu
      split at hc
      · cases hc; exact eqb_ok hu (.inl ⟨rfl, rfl⟩) hv h1 h2
      · cases hc; exact eqb_ok hu (.inr ⟨rfl, rfl⟩) hv h1 h2
      · cases hc
    · rename_i fs hu
      split at hc
      case h_2 => cases hc
      rename_i ks hks
      split at hc
      · cases hc; exact eqs_ok hks (.inl ⟨rfl, rfl⟩) hv h1 h2
      · cases hc; exact eqs_ok hks (.inr ⟨rfl, rfl⟩) hv h1 h2
      · cases hc
    · rename_i hu
      split at hc
      · cases hc; exact eqnil_ok hu rfl (.inl ⟨rfl, rfl⟩) hv h1 h2
      · cases hc; exact eqnil_ok hu rfl (.inr ⟨rfl, rfl⟩) hv h1 h2
      · cases hc
    · rename_i hu
      split at hc
      · cases hc; exact eqnil_ok hu rfl (.inl ⟨rfl, rfl⟩) hv h1 h2
      · cases hc; exact eqnil_ok hu rfl (.inr ⟨rfl, rfl⟩) hv h1 h2
      · cases hc
    · rename_i hu
      split at hc
      · cases hc; exact eqnil_ok hu rfl (.inl ⟨rfl, rfl⟩) hv h1 h2
      · cases hc; exact eqnil_ok hu rfl (.inr ⟨rfl, rfl⟩) hv h1 h2
      · cases hc
    · rename_i hu
      split at hc
      · cases hc; exact eqnil_ok hu rfl (.inl ⟨rfl, rfl⟩) hv h1 h2
      · cases hc; exact eqnil_ok hu rfl (.inr ⟨rfl, rfl⟩) hv h1 h2
      · cases hc
    · cases hc
  | unOp op t x =>
    cases op with
    | not =>
      simp only [cP, Option.map_eq_some_iff] at hc
      obtain ⟨x', hx, rfl⟩ := hc
      exact p_not hF ho hx hv
    | neg =>
      simp only [cP, Option.map_eq_some_iff] at hc
      obtain ⟨x', hx, rfl⟩ := hc
      exact p_neg hF ho hx hv
    | _ => simp only [cP] at hc; cases hc
  | convert s d x =>
    simp only [cP] at hc
    split at hc
    · rename_i hs hd
      simp only [Option.map_eq_some_iff] at hc
      obtain ⟨x', hx, rfl⟩ := hc
      exact p_conv hF hs hd ho hx hv
    · cases hc
  | makeFunc fn first caps =>
    cases fn with
    | func f =>
      simp only [cP] at hc
      split at hc
      · rename_i he
        simp only [Option.map_eq_some_iff] at hc
        obtain ⟨cs, hx, rfl⟩ := hc
        have : first = #[] := by simpa using he
        subst this
        exact p_fn hF ho hx hv
      · cases hc
    | _ => simp only [cP] at hc; cases hc
  | slice t x lo hi mx =>
    simp only [cP] at hc
    split at hc
    · rename_i hu
      split at hc
      · simp only [Option.bind_eq_bind, Option.bind_eq_some_iff, Option.pure_def, Option.some.injEq] at hc
        obtain ⟨x', hx, l', hl, h', hh, rfl⟩ := hc
        exact p_cuts hF hu ho hx hl hh hv
      · cases hc
    · rename_i hu
      simp only [Option.bind_eq_bind, Option.bind_eq_some_iff, Option.pure_def, Option.some.injEq] at hc
      obtain ⟨sz, hs, x', hx, l', hl, h', hh, m', hm, rfl⟩ := hc
      exact p_cut hF hu hs ho hx hl hh hm hv
    · cases hc
  | fieldAddr t x i =>
    simp only [cP] at hc
    split at hc
    · rename_i hu
      simp only [Option.bind_eq_bind, Option.bind_eq_some_iff] at hc
      obtain ⟨f, hf, sz, hs, hc⟩ := hc
      split at hc
      · cases hc
      · rename_i h0
        simp only [Option.bind_eq_some_iff, Option.pure_def, Option.some.injEq] at hc
        obtain ⟨x', hx, rfl⟩ := hc
        exact p_fld hF hu hf hs h0 ho hx hv
    · cases hc
  | field t x i =>
    simp only [cP] at hc
    split at hc
    · rename_i hu
      simp only [Option.bind_eq_bind, Option.bind_eq_some_iff, Option.pure_def, Option.some.injEq] at hc
      obtain ⟨f, hf, ag, hg, sz, hs, x', hx, rfl⟩ := hc
      exact p_part hF hu hf hs hg ho hx hv
    · cases hc
  | indexAddr t x i =>
    simp only [cP] at hc
    split at hc
    · rename_i hu
      simp only [Option.bind_eq_bind, Option.bind_eq_some_iff, Option.pure_def, Option.some.injEq] at hc
      obtain ⟨sz, hs, x', hx, i', hi, rfl⟩ := hc
      exact p_idx hF hu hs ho hx hi hv
    · rename_i hu
      simp only [Option.bind_eq_bind, Option.bind_eq_some_iff, Option.pure_def, Option.some.injEq] at hc
      obtain ⟨sz, hs, x', hx, i', hi, rfl⟩ := hc
      exact p_idxa hF hu hs ho hx hi hv
    · cases hc
  | index t x i =>
    simp only [cP] at hc
    split at hc
    · rename_i hu
      simp only [Option.bind_eq_bind, Option.bind_eq_some_iff, Option.pure_def, Option.some.injEq] at hc
      obtain ⟨x', hx, i', hi, rfl⟩ := hc
      exact p_idxs hF hu ho hx hi hv
    · cases hc
  | extract x i =>
    simp only [cP, Option.bind_eq_bind, Option.bind_eq_some_iff, Option.pure_def, Option.some.injEq] at hc
    obtain ⟨x', hx, rfl⟩ := hc
    exact p_extract hF ho hx hv
  | call c =>
    obtain ⟨callee, args, ts⟩ := c
    cases callee with
    | builtin b =>
      cases b with
      | len =>
        simp only [cP] at hc
        split at hc
        case h_2 => cases hc
        rename_i t x ht hx0
        split at hc
        · rename_i hu
          simp only [Option.map_eq_some_iff] at hc
          obtain ⟨x', hx, rfl⟩ := hc
          exact p_len hF ho rfl ht hx0 (st := true) hu hx hv
        · rename_i e hu
          simp only [Option.map_eq_some_iff] at hc
          obtain ⟨x', hx, rfl⟩ := hc
          exact p_len hF ho rfl ht hx0 (st := false) ⟨e, hu⟩ hx hv
        · cases hc
      | min =>
        simp only [cP] at hc
        split at hc
        · rename_i x y hl
          simp only [Option.bind_eq_bind, Option.bind_eq_some_iff, Option.pure_def, Option.some.injEq] at hc
          obtain ⟨x', hx, y', hy, rfl⟩ := hc
          exact p_mini hF ho rfl hl hx hy hv
        · cases hc
      | max =>
        simp only [cP] at hc
        split at hc
        · rename_i x y hl
          simp only [Option.bind_eq_bind, Option.bind_eq_some_iff, Option.pure_def, Option.some.injEq] at hc
          obtain ⟨x', hx, y', hy, rfl⟩ := hc
          exact p_maxi hF ho rfl hl hx hy hv
        · cases hc
      | _ => simp only [cP] at hc; cases hc
    | _ => simp only [cP] at hc; cases hc
  | _ => simp only [cP] at hc; cases hc
end
end
end Go.Proofs.Ytgcciohenncplaa.Ai
