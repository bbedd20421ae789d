/- Operations that look at no memory are right: the rest of them. -/
import Derived.Test.YtgcciohenncplaaAi4
import Derived.Laws.Build
namespace Go.Proofs.Ytgcciohenncplaa.Ai
noncomputable section
open Go.RowKit (Below)

theorem Rel.of_str {ρ : Env} {l : List UInt8} {V : Value} (h : Rel ρ (.str l) V) : ∃ s, V = .string s ∧ s.data.toList = l := by cases h; exact ⟨_, rfl, by assumption⟩
theorem Rel.of_int {ρ : Env} {k : IntKind} {n : Int} {V : Value} (h : Rel ρ (.int k n) V) : V = .int k n := by cases h; rfl
theorem Rel.of_bool {ρ : Env} {b : Bool} {V : Value} (h : Rel ρ (.bool b) V) : V = .bool b := by cases h; rfl

theorem part_cell {P : Program} {t : TypeId} (ht : isRowT P t = some false) {cs : Array Value} {o : Nat} {V : Value} (h : cs[o]? = some V) (w : World) : (part t cs o).run P w = .ok V w := by
  simp [part, run_isAgg' ht, h]

theorem eqcells_run {P : Program} {ρ : Env} {d : Nat} {vs us : Array Value} (w : World) : ∀ (ks : List Bool) (i : Nat) (fs : List Field) (xs ys : List AV) (r : Bool), flatFrom P i fs = some ks → eqcells ks xs ys = some r →
    (∀ (j : Nat) x, xs[j]? = some x → ∃ V, vs[i + j]? = some V ∧ Rel ρ x V) → (∀ (j : Nat) x, ys[j]? = some x → ∃ V, us[i + j]? = some V ∧ Rel ρ x V) → (Op.eqFields (d + 1) vs us fs).run P w = .ok r w
  | ks, i, [], xs, ys, r, hf, he, hx, hy => by
    simp only [flatFrom, Option.some.injEq] at hf
    subst hf
    match xs, ys, he with
    | [], [], he => simp only [eqcells, Option.some.injEq] at he; subst he; simp [Op.eqFields]
  | ks, i, f :: fs, xs, ys, r, hf, he, hx, hy => by
    unfold flatFrom at hf
    split at hf
    case isFalse => cases hf
    rename_i hoff
    obtain ⟨ho, hn⟩ := hoff
    rw [Op.eqFields, if_pos hn]
    split at hf
    · rename_i k0 ks' hu hr
      cases hf
      match xs, ys, he with
      | .int k a :: xs', .int k' b :: ys', he =>
        unfold eqcells at he
        split at he
        case isFalse => cases he
        rename_i hk; subst hk
        obtain ⟨V, hV, hVr⟩ := hx 0 _ rfl
        obtain ⟨U, hU, hUr⟩ := hy 0 _ rfl
        cases hVr; cases hUr
        rw [Nat.add_zero] at hV hU
        have ht : isRowT P f.type = some false := by unfold isRowT; rw [hu]
        rw [ho]
        simp only [Sem.run_bind, part_cell ht hV, part_cell ht hU, Result.andThen_ok, run_equalIn_int w d f.type k k0 a b hu]
        by_cases hab : (a == b) = true
        · rw [if_pos hab] at he
          rw [hab]
          simp only [Bool.not_true, Bool.false_eq_true, if_false]
          exact eqcells_run w ks' (i + 1) fs xs' ys' r hr he (fun j x h => by have := hx (j + 1) x h; rwa [Nat.add_right_comm, Nat.add_assoc]) (fun j x h => by have := hy (j + 1) x h; rwa [Nat.add_right_comm, Nat.add_assoc])
        · rw [if_neg hab] at he
          cases he
          rw [Bool.not_eq_true] at hab
          rw [hab]; simp
    · rename_i ks' hu hr
      cases hf
      match xs, ys, he with
      | .str a :: xs', .str b :: ys', he =>
        unfold eqcells at he
        obtain ⟨V, hV, hVr⟩ := hx 0 _ rfl
        obtain ⟨U, hU, hUr⟩ := hy 0 _ rfl
        obtain ⟨s, rfl, hs⟩ := hVr.of_str
        obtain ⟨s', rfl, hs'⟩ := hUr.of_str
        rw [Nat.add_zero] at hV hU
        have ht : isRowT P f.type = some false := by unfold isRowT; rw [hu]
        rw [ho]
        simp only [Sem.run_bind, part_cell ht hV, part_cell ht hU, Result.andThen_ok, run_equalIn_string w d f.type s s' hu, ByteArray.toList_eq, hs, hs']
        by_cases hab : (a == b) = true
        · rw [if_pos hab] at he
          rw [hab]
          simp only [Bool.not_true, Bool.false_eq_true, if_false]
          exact eqcells_run w ks' (i + 1) fs xs' ys' r hr he (fun j x h => by have := hx (j + 1) x h; rwa [Nat.add_right_comm, Nat.add_assoc]) (fun j x h => by have := hy (j + 1) x h; rwa [Nat.add_right_comm, Nat.add_assoc])
        · rw [if_neg hab] at he
          cases he
          rw [Bool.not_eq_true] at hab
          rw [hab]; simp
    · cases hf

theorem eqs_run {P : Program} {ρ : Env} {t : TypeId} {ks : List Bool} (ht : flatEq P t = some ks) {xs ys : List AV} {r : Bool} (he : eqcells ks xs ys = some r) {vs us : List Value} (hx : RelL ρ xs vs) (hy : RelL ρ ys us) (d : Nat) (w : World) :
    (Op.equalIn (d + 2) t (.agg vs.toArray) (.agg us.toArray)).run P w = .ok r w := by
  unfold flatEq at ht
  split at ht
  case h_2 => cases ht
  rename_i fs hu
  split at ht
  case isFalse => cases ht
  rename_i hc
  have hf : P.fieldsOf t = fs := by simp [Program.fieldsOf, hu]
  rw [run_equalIn_struct (P := P) w (d + 1) t _ _ (by rw [hf]; exact hu) hc.1, hf]
  exact eqcells_run w ks 0 fs.toList xs ys r ht he (fun j x h => by obtain ⟨V, a, b⟩ := hx.get h; exact ⟨V, by simpa using a, b⟩) (fun j x h => by obtain ⟨V, a, b⟩ := hy.get h; exact ⟨V, by simpa using a, b⟩)

theorem eqs_ok {P : Program} {ρ : Env} {op : BinOp} {neg : Bool} {t : TypeId} {ks : List Bool} (ht : flatEq P t = some ks) (ho : (op = .eql ∧ neg = false) ∨ (op = .neq ∧ neg = true)) {xo yo : Operand} {x y v : AV} {X Y : Value} (hv : eqsA neg ks x y = some v) (hx : Rel ρ x X) (hy : Rel ρ y Y) :
    ∃ V, Rel ρ v V ∧ Gives P (do eqGuard op t xo yo X Y; binOp op t X Y) V := by
  unfold eqsA at hv
  split at hv
  case h_2 => cases hv
  rename_i xs ys
  obtain ⟨vs, rfl, hxs⟩ := hx.of_agg
  obtain ⟨us, rfl, hys⟩ := hy.of_agg
  split at hv
  case h_2 => cases hv
  rename_i b hb
  cases hv
  have hg : P.eqGuardType P.depth t = false := by
    unfold flatEq at ht
    split at ht
    case h_2 => cases ht
    split at ht
    case isFalse => cases ht
    rename_i hc; exact hc.2
  refine ⟨_, .bool, fun w => ?_⟩
  have h := eqs_run ht hb hxs hys 9998 w
  rw [Sem.run_bind, run_eqGuard_agg w op t xo yo _ _ hg, Result.andThen_ok]
  rcases ho with ⟨rfl, rfl⟩ | ⟨rfl, rfl⟩
  · rw [run_eql_struct w, h]; simp
  · rw [run_neq_struct w, h]; simp

end
end Go.Proofs.Ytgcciohenncplaa.Ai
