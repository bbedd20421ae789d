/- Operations that look at no memory are right: all of them. -/
import Derived.Test.YtgcciohenncplaaAi5
namespace Go.Proofs.Ytgcciohenncplaa.Ai
noncomputable section
open Go.RowKit (Below)

theorem fold_set (off : Nat) : ∀ (us : List Value) (k : Nat) (l : List Value), off + k + us.length ≤ l.length →
    (us.zipIdx k).foldl (fun (cs : Array Value) (x : Value × Nat) => cs.setIfInBounds (off + x.2) x.1) l.toArray = (l.take (off + k) ++ us ++ l.drop (off + k + us.length)).toArray
  | [], k, l, _ => by simp
  | u :: us, k, l, h => by
    rw [List.length_cons] at h
    rw [List.zipIdx_cons, List.foldl_cons]
    have e : (l.toArray.setIfInBounds (off + k) u) = (l.set (off + k) u).toArray := by simp
    rw [e, fold_set off us (k + 1) _ (by rw [List.length_set]; omega)]
    congr 1
    have h1 : (l.set (off + k) u).take (off + (k + 1)) = l.take (off + k) ++ [u] := by
      rw [← Nat.add_assoc, List.take_succ_eq_append_getElem (by rw [List.length_set]; omega), List.take_set, List.set_eq_of_length_le (by simp; omega)]
      simp
    have h2 : (l.set (off + k) u).drop (off + (k + 1) + us.length) = l.drop (off + k + (us.length + 1)) := by
      rw [List.drop_set_of_lt (by omega)]
      congr 1; omega
    rw [h1, h2, List.length_cons]
    simp

theorem fill_ok {ρ : Env} (place : Nat → Option (Nat × Nat)) : ∀ (ps : List (Nat × Nat × AV)) (qs : List (Nat × Value)) (cs r : List AV) (vs : List Value), fillA cs ps = some r → RelL ρ cs vs →
    qs.length = ps.length → (∀ (j : Nat) p, ps[j]? = some p → ∃ q, qs[j]? = some q ∧ place q.1 = some (p.1, p.2.1) ∧ Rel ρ p.2.2 q.2) →
    ∃ us, Instr.fill place vs.toArray qs = some us.toArray ∧ RelL ρ r us
  | [], [], cs, r, vs, h, hr, _, _ => by
    simp only [fillA, Option.some.injEq] at h
    subst h
    exact ⟨vs, rfl, hr⟩
  | (off, sz, v) :: ps, (i, V) :: qs, cs, r, vs, h, hr, hl, hp => by
    unfold fillA at h
    split at h
    case isFalse => cases h
    rename_i hc
    obtain ⟨q, hq, hpl, hv0⟩ := hp 0 _ rfl
    have hv := hv0.cells hc.2.2
    simp only [List.getElem?_cons_zero, Option.some.injEq] at hq
    subst hq
    simp only at hpl hv
    have hvl : V.cells.size = sz := by have := hv.len; simp at this; omega
    have hcl : cs.length = vs.length := hr.len.symm
    have hset : ((V.cells.zipIdx.foldl (fun (cs : Array Value) (x : Value × Nat) => cs.setIfInBounds (off + x.2) x.1) vs.toArray)) = (vs.take off ++ V.cells.toList ++ vs.drop (off + sz)).toArray := by
      have := fold_set off V.cells.toList 0 vs (by simp; omega)
      rw [← Array.foldl_toList, Array.toList_zipIdx]
      simp only [Nat.add_zero, Array.length_toList, hvl] at this
      exact this
    have hr' : RelL ρ (cs.take off ++ v.cells ++ cs.drop (off + sz)) (vs.take off ++ V.cells.toList ++ vs.drop (off + sz)) := ((hr.take off).append hv).append (hr.drop (off + sz))
    obtain ⟨us, hu, hur⟩ := fill_ok place ps qs _ r _ h hr' (by simpa using hl) (fun j p hj => by obtain ⟨q, a, b⟩ := hp (j + 1) p hj; exact ⟨q, a, b⟩)
    refine ⟨us, ?_, hur⟩
    unfold Instr.fill
    rw [hpl]
    simp only
    rw [if_neg (by simp; omega)]
    rw [← hu]
    congr 1

theorem cOs_ev {ρ : Env} {F : Fr} {a : Act} (hF : FrOk ρ F a) : ∀ {os : List Operand} {xs : List Opd}, cOs os = some xs → RelL ρ (xs.map (·.ev F)) (os.map a.eval)
  | [], xs, h => by simp only [cOs, Option.some.injEq] at h; subst h; exact .nil
  | o :: os, xs, h => by
    unfold cOs at h
    split at h
    · rename_i x ys h1 h2
      cases h
      exact .cons (hF.ev h1) (cOs_ev hF h2)
    · cases h

theorem asNat_ok {ρ : Env} {x : AV} {X : Value} {n : Nat} (h : asNat x = some n) (hx : Rel ρ x X) : ∃ k, X = .int k n := by
  cases x <;> first | (simp only [asNat] at h; done) | skip
  all_goals first | (cases h; done) | skip
  rename_i k m
  simp only [asNat] at h
  split at h
  · rename_i h0
    cases h
    have := hx.of_int
    exact ⟨k, by rw [this]; congr 1; omega⟩
  · cases h

theorem zeroT_ok {P : Program} {ρ : Env} {t : TypeId} {z : List AV} (h : zeroT P t = some z) : ∃ V, (∀ w, (zeroValue t).run P w = .ok V w) ∧ RelL ρ z V.cells.toList ∧ scals z = true := by
  unfold zeroT at h
  split at h
  · rename_i i hi
    split at h
    · rename_i V hV
      have hz := zAVs_rel (ρ := ρ) h
      exact ⟨V, fun w => by simp [zeroValue, run_typeInfo' hi, hV], hz.1, hz.2⟩
    · cases h
  · cases h

/-- What an operation gives. -/
def Yld (P : Program) (a : Act) (o : Oper) (V : Value) : Prop := ∀ w, (execOp a.eval o).run P w = .ok (.value V) w

section
variable {P : Program} {ρ : Env} {F : Fr} {a : Act} {o : Oper} {v : AV}

theorem p_pick (hF : FrOk ρ F a) {c x y : Operand} {c' x' y' : Opd} (ho : o.op = .pick c x y) (hc : cO c = some c') (hx : cO x = some x') (hy : cO y = some y') (hv : (POp.pick c' x' y').ev F = some v) : ∃ V, Rel ρ v V ∧ Yld P a o V := by
  have h1 := hF.ev hc; have h2 := hF.ev hx; have h3 := hF.ev hy
  simp only [POp.ev] at hv
  split at hv
  · rename_i e; rw [e] at h1; cases hv
    exact ⟨_, h2, fun w => by simp [execOp, ho, h1.of_bool, asBool]⟩
  · rename_i e; rw [e] at h1; cases hv
    exact ⟨_, h3, fun w => by simp [execOp, ho, h1.of_bool, asBool]⟩
  · cases hv

theorem p_nil (hF : FrOk ρ F a) {x : Operand} {x' : Opd} (ho : o.op = .nilCheck x) (hx : cO x = some x') (hv : (POp.nilchk x').ev F = some v) : ∃ V, Rel ρ v V ∧ Yld P a o V := by
  have h1 := hF.ev hx
  simp only [POp.ev] at hv
  split at hv <;> first | (cases hv; done) | skip
  all_goals (rename_i e; rw [e] at h1; cases hv)
  · generalize hX : a.eval x = X at h1
    cases h1 with
    | ptr h => exact ⟨_, .ptr h, fun w => by simp [execOp, ho, hX]⟩
  · generalize hX : a.eval x = X at h1
    cases h1 with
    | rptr hi hr => exact ⟨_, .rptr hi hr, fun w => by simp [execOp, ho, hX]⟩
  · obtain ⟨vs, hX, hl⟩ := h1.of_fn
    exact ⟨_, Rel.fn' hl, fun w => by simp [execOp, ho, hX]⟩

theorem p_not (hF : FrOk ρ F a) {t : TypeId} {x : Operand} {x' : Opd} (ho : o.op = .unOp .not t x) (hx : cO x = some x') (hv : (POp.notb x').ev F = some v) : ∃ V, Rel ρ v V ∧ Yld P a o V := by
  have h1 := hF.ev hx
  simp only [POp.ev] at hv
  split at hv
  · rename_i e; rw [e] at h1; cases hv
    exact ⟨_, .bool, fun w => by simp [execOp, ho, h1.of_bool, Op.unary]⟩
  · cases hv
theorem p_neg (hF : FrOk ρ F a) {t : TypeId} {x : Operand} {x' : Opd} (ho : o.op = .unOp .neg t x) (hx : cO x = some x') (hv : (POp.negi x').ev F = some v) : ∃ V, Rel ρ v V ∧ Yld P a o V := by
  have h1 := hF.ev hx
  simp only [POp.ev] at hv
  split at hv
  · rename_i e; rw [e] at h1; cases hv
    exact ⟨_, .int, fun w => by simp [execOp, ho, h1.of_int, Op.unary, Op.intArith]⟩
  · cases hv
theorem p_conv (hF : FrOk ρ F a) {s d : TypeId} {k0 k : IntKind} (hs : P.underlying s = some (.int k0)) (hd : P.underlying d = some (.int k)) {x : Operand} {x' : Opd} (ho : o.op = .convert s d x) (hx : cO x = some x') (hv : (POp.conv k x').ev F = some v) : ∃ V, Rel ρ v V ∧ Yld P a o V := by
  have h1 := hF.ev hx
  simp only [POp.ev] at hv
  split at hv
  · rename_i e; rw [e] at h1; cases hv
    exact ⟨_, .int, fun w => by simp [execOp, ho, h1.of_int, convert, run_underlying' hs, run_underlying' hd, Conv.intToInt]⟩
  · cases hv
theorem p_fn (hF : FrOk ρ F a) {f : Nat} {cs : Array Operand} {cs' : List Opd} (ho : o.op = .makeFunc (.func f) #[] cs) (hx : cOs cs.toList = some cs') (hv : (POp.mkfn f cs').ev F = some v) : ∃ V, Rel ρ v V ∧ Yld P a o V := by
  have h1 := cOs_ev hF hx
  simp only [POp.ev, Option.some.injEq] at hv
  subst hv
  refine ⟨_, Rel.fn' h1, fun w => ?_⟩
  have e : cs.map a.eval = (cs.toList.map a.eval).toArray := Array.ext' (by simp)
  simp [execOp, ho, Instr.makeFunc, e]
theorem p_extract (hF : FrOk ρ F a) {i : Nat} {x : Operand} {x' : Opd} (ho : o.op = .extract x i) (hx : cO x = some x') (hv : (POp.extract x' i).ev F = some v) : ∃ V, Rel ρ v V ∧ Yld P a o V := by
  have h1 := hF.ev hx
  simp only [POp.ev] at hv
  split at hv
  · rename_i e; rw [e] at h1
    obtain ⟨vs, hX, hl⟩ := h1.of_tup
    obtain ⟨V, hV, hr⟩ := hl.get hv
    exact ⟨V, hr, fun w => by simp [execOp, ho, hX, Instr.extract, hV]⟩
  · cases hv

theorem p_fld (hF : FrOk ρ F a) {t : TypeId} {fs : Array Field} (hu : P.underlying t = some (.struct fs)) {i : Nat} {f : Field} (hf : fs[i]? = some f) {sz : Nat} (hs : szT P f.type = some sz) (h0 : sz ≠ 0) {x : Operand} {x' : Opd} (ho : o.op = .fieldAddr t x i) (hx : cO x = some x') (hv : (POp.fld f.offset x').ev F = some v) : ∃ V, Rel ρ v V ∧ Yld P a o V := by
  have h1 := hF.ev hx
  have run : ∀ (b n : Nat) w, (Instr.fieldAt t (.pointer (some ⟨b, n, none⟩)) i).run P w = .ok (.pointer (some ⟨b, n + f.offset, none⟩)) w := by
    intro b n w
    have e : (⟨b, n, none⟩ : Addr).add f.offset = ⟨b, n + f.offset, none⟩ := by unfold Addr.add; split <;> simp_all
    simp [Instr.fieldAt, run_underlying' hu, hf, Instr.sureAddr, fieldPlace, run_sizeOf' hs, h0, e]
  simp only [POp.ev] at hv
  split at hv
  · rename_i e; rw [e] at h1; cases hv
    generalize hX : a.eval x = X at h1
    cases h1 with
    | ptr h => exact ⟨_, .ptr h, fun w => by simp [execOp, ho, hX, run, Nat.add_assoc]⟩
  · rename_i e; rw [e] at h1; cases hv
    generalize hX : a.eval x = X at h1
    cases h1 with
    | rptr hi hr => exact ⟨_, .rptr hi hr, fun w => by simp [execOp, ho, hX, run, Nat.add_assoc]⟩
  · cases hv
theorem p_part (hF : FrOk ρ F a) {t : TypeId} {fs : Array Field} (hu : P.underlying t = some (.struct fs)) {i : Nat} {f : Field} (hf : fs[i]? = some f) {sz : Nat} (hs : szT P f.type = some sz) {ag : Bool} (hg : isRowT P f.type = some ag) {x : Operand} {x' : Opd} (ho : o.op = .field t x i) (hx : cO x = some x') (hv : (POp.part ag f.offset sz x').ev F = some v) : ∃ V, Rel ρ v V ∧ Yld P a o V := by
  have h1 := hF.ev hx
  simp only [POp.ev] at hv
  split at hv
  · rename_i cs e; rw [e] at h1
    obtain ⟨vs, hX, hl⟩ := h1.of_agg
    unfold partA at hv
    cases ag with
    | true =>
      simp only [if_true] at hv
      split at hv
      · cases hv
        refine ⟨_, Rel.agg' ((hl.drop f.offset).take sz), fun w => ?_⟩
        simp only [execOp, ho, hX, Instr.field, Sem.run_bind, run_underlying' hu, Result.andThen_ok, hf, asAgg, part, run_isAgg' hg]
        simp [List.take_drop, run_sizeOf' hs]
      · cases hv
    | false =>
      simp only [Bool.false_eq_true, if_false] at hv
      obtain ⟨V, hV, hr⟩ := hl.get hv
      exact ⟨V, hr, fun w => by simp [execOp, ho, hX, Instr.field, run_underlying' hu, hf, asAgg, part, run_isAgg' hg, hV]⟩
  · cases hv
theorem p_idx (hF : FrOk ρ F a) {t e : TypeId} (hu : P.underlying t = some (.slice e)) {sz : Nat} (hs : szT P e = some sz) {x i : Operand} {x' i' : Opd} (ho : o.op = .indexAddr t x i) (hx : cO x = some x') (hi : cO i = some i') (hv : (POp.idx sz x' i').ev F = some v) : ∃ V, Rel ρ v V ∧ Yld P a o V := by
  have h1 := hF.ev hx; have h2 := hF.ev hi
  simp only [POp.ev] at hv
  unfold idxA at hv
  split at hv
  case h_1 => cases hv
  rename_i j hj
  obtain ⟨k, hI⟩ := asNat_ok hj h2
  have run : ∀ (b n l rc : Nat), j < l → ∀ w, (Instr.indexAt t (.slice (some ⟨b, n, none⟩) l rc) (.int k j)).run P w = .ok (.pointer (some ⟨b, n + j * sz, none⟩)) w := by
    intro b n l rc hl w
    have e : (⟨b, n, none⟩ : Addr).add (j * sz) = ⟨b, n + j * sz, none⟩ := by unfold Addr.add; split <;> simp_all
    simp [Instr.indexAt, asIntOf, run_underlying' hu, hl, run_sizeOf' hs, e]
  split at hv
  · rename_i e'; rw [e'] at h1
    split at hv
    case isFalse => cases hv
    rename_i hc
    cases hv
    obtain ⟨hlt, rfl⟩ := hc
    generalize hX : a.eval x = X at h1
    cases h1 with
    | sl h hn ht hf =>
      refine ⟨_, .ptr h, fun w => ?_⟩
      simp only [execOp, ho, hX, hI]
      have r := run
      simp [r _ _ _ _ hlt, Nat.add_mul]
  · rename_i rows e'; rw [e'] at h1
    split at hv
    case h_2 => cases hv
    rename_i row hrow
    split at hv
    case isFalse => cases hv
    rename_i hlen
    cases hv
    have hlt : j < rows.length := (List.getElem?_eq_some_iff.1 hrow).1
    generalize hX : a.eval x = X at h1
    cases h1 with
    | ro0 => simp at hlt
    | @ro _ b o' s rc c hn hl hi' hr =>
      have hs' : s = sz := by rw [← hlen]; exact (hl j row hrow).symm
      subst hs'
      refine ⟨.pointer (some ⟨b, (o' + j * s) + 0, none⟩), .rptr (c := fun q => c (j * s + q)) (fun q hq => ?_) (fun q y hy => hr j row q y hrow hy), fun w => ?_⟩
      · have := hi' j row q hrow (by omega)
        rw [← this]; congr 1; omega
      · simp [execOp, ho, hX, hI, run _ _ _ _ hlt]
  · cases hv
theorem p_idxa (hF : FrOk ρ F a) {t e : TypeId} {n : Nat} (hu : P.underlying t = some (.array n e)) {sz : Nat} (hs : szT P e = some sz) {x i : Operand} {x' i' : Opd} (ho : o.op = .indexAddr t x i) (hx : cO x = some x') (hi : cO i = some i') (hv : (POp.idxa n sz x' i').ev F = some v) : ∃ V, Rel ρ v V ∧ Yld P a o V := by
  have h1 := hF.ev hx; have h2 := hF.ev hi
  simp only [POp.ev] at hv
  have run : ∀ (j : Nat) k (b m : Nat), j < n → ∀ w, (Instr.indexAt t (.pointer (some ⟨b, m, none⟩)) (.int k j)).run P w = .ok (.pointer (some ⟨b, m + j * sz, none⟩)) w := by
    intro j k b m hl w
    have e : (⟨b, m, none⟩ : Addr).add (j * sz) = ⟨b, m + j * sz, none⟩ := by unfold Addr.add; split <;> simp_all
    simp [Instr.indexAt, asIntOf, run_underlying' hu, hl, run_sizeOf' hs, e, Instr.sureAddr]
  split at hv
  · rename_i j id r k hj e'
    rw [e'] at h1
    obtain ⟨k', hI⟩ := asNat_ok hj h2
    split at hv
    case isFalse => cases hv
    rename_i hlt
    cases hv
    generalize hX : a.eval x = X at h1
    cases h1 with
    | ptr h => exact ⟨_, .ptr h, fun w => by simp [execOp, ho, hX, hI, run _ _ _ _ hlt, Nat.add_assoc]⟩
  · rename_i j row k hj e'
    rw [e'] at h1
    obtain ⟨k', hI⟩ := asNat_ok hj h2
    split at hv
    case isFalse => cases hv
    rename_i hlt
    cases hv
    generalize hX : a.eval x = X at h1
    cases h1 with
    | rptr h hr => exact ⟨_, .rptr h hr, fun w => by simp [execOp, ho, hX, hI, run _ _ _ _ hlt, Nat.add_assoc]⟩
  · cases hv
theorem p_idxs (hF : FrOk ρ F a) {t : TypeId} (hu : P.underlying t = some .string) {x i : Operand} {x' i' : Opd} (ho : o.op = .index t x i) (hx : cO x = some x') (hi : cO i = some i') (hv : (POp.idxs x' i').ev F = some v) : ∃ V, Rel ρ v V ∧ Yld P a o V := by
  have h1 := hF.ev hx; have h2 := hF.ev hi
  simp only [POp.ev] at hv
  split at hv
  · rename_i l j e' hj
    rw [e'] at h1
    obtain ⟨k', hI⟩ := asNat_ok hj h2
    obtain ⟨s, hX, rfl⟩ := h1.of_str
    split at hv
    case h_2 => cases hv
    rename_i b hb
    cases hv
    have hb' : s[j]? = some b := by
      rw [Array.getElem?_toList] at hb
      rw [← hb]
      rfl
    exact ⟨_, .int, fun w => by simp [execOp, ho, hX, hI, Instr.index, asIntOf, run_underlying' hu, hb']⟩
  · cases hv
theorem p_len (hF : FrOk ρ F a) {c : Call} {t : TypeId} {x : Operand} (ho : o.op = .call c) (hb : c.callee = .builtin .len) (ht : c.argTypes[0]? = some t) (hx0 : c.args[0]? = some x) {x' : Opd} {st : Bool} (hu : match st with | true => P.underlying t = some .string | false => ∃ e, P.underlying t = some (.slice e)) (hx : cO x = some x') (hv : (POp.lenS st x').ev F = some v) : ∃ V, Rel ρ v V ∧ Yld P a o V := by
  have h1 := hF.ev hx
  have harg : (c.args.map a.eval)[0]? = some (a.eval x) := by simp [hx0]
  have run : ∀ w V, (Builtin.len_ c.argTypes o.type (c.args.map a.eval)).run P w = .ok V w → (execOp a.eval o).run P w = .ok (.value V) w := by
    intro w V h
    simp [execOp, ho, resolve, hb, invoke, builtin, h]
  simp only [POp.ev] at hv
  generalize hX : a.eval x = X at h1
  rw [hX] at harg
  generalize hy : x'.ev F = y at h1 hv
  cases st with
  | true =>
    simp only at hu
    cases y <;> first | (simp only [lenA] at hv; done) | skip
    all_goals first | (cases hv; done) | skip
    simp only [lenA, Option.some.injEq] at hv
    subst hv
    obtain ⟨s, rfl, rfl⟩ := h1.of_str
    exact ⟨_, .int, fun w => run w _ (by simp [Builtin.len_, ht, harg, run_underlying' hu, goInt])⟩
  | false =>
    obtain ⟨e, hu⟩ := hu
    cases y <;> first | (simp only [lenA] at hv; done) | skip
    all_goals first | (cases hv; done) | skip
    all_goals (simp only [lenA, Option.some.injEq] at hv; subst hv)
    all_goals cases h1
    all_goals exact ⟨_, .int, fun w => run w _ (by simp [Builtin.len_, ht, harg, run_underlying' hu, goInt])⟩
theorem p_mini (hF : FrOk ρ F a) {c : Call} {x y : Operand} (ho : o.op = .call c) (hb : c.callee = .builtin .min) (hx0 : c.args.toList = [x, y]) {x' y' : Opd} (hx : cO x = some x') (hy : cO y = some y') (hv : (POp.mini x' y').ev F = some v) : ∃ V, Rel ρ v V ∧ Yld P a o V := by
  have h1 := hF.ev hx; have h2 := hF.ev hy
  have e : c.args = #[x, y] := by rw [← Array.toList_inj]; simpa using hx0
  simp only [POp.ev] at hv
  split at hv
  · rename_i e1 e2; rw [e1] at h1; rw [e2] at h2
    split at hv
    · cases hv
      exact ⟨_, .int, fun w => by simp [execOp, ho, resolve, hb, invoke, builtin, Builtin.min_, e, h1.of_int, h2.of_int, Builtin.min2]⟩
    · cases hv
  · cases hv
theorem p_maxi (hF : FrOk ρ F a) {c : Call} {x y : Operand} (ho : o.op = .call c) (hb : c.callee = .builtin .max) (hx0 : c.args.toList = [x, y]) {x' y' : Opd} (hx : cO x = some x') (hy : cO y = some y') (hv : (POp.maxi x' y').ev F = some v) : ∃ V, Rel ρ v V ∧ Yld P a o V := by
  have h1 := hF.ev hx; have h2 := hF.ev hy
  have e : c.args = #[x, y] := by rw [← Array.toList_inj]; simpa using hx0
  simp only [POp.ev] at hv
  split at hv
  · rename_i e1 e2; rw [e1] at h1; rw [e2] at h2
    split at hv
    · cases hv
      exact ⟨_, .int, fun w => by simp [execOp, ho, resolve, hb, invoke, builtin, Builtin.max_, e, h1.of_int, h2.of_int, Builtin.max2]⟩
    · cases hv
  · cases hv
end
end
end Go.Proofs.Ytgcciohenncplaa.Ai
