/- One operation, and a row of them, of Go's: what the plain run says of it holds. -/
import Derived.Test.YtgcciohenncplaaAi27
namespace Go.Proofs.Ytgcciohenncplaa.Ai
noncomputable section
open Go.RowKit (Below)

def appT (P : Program) (t : TypeId) : Option (Nat × Nat) :=
  match P.underlying t with
  | some (.slice e) => match P.info? e with
    | some i => match i.zero with
      | some z => if z.cells.size = i.size ∧ 0 < i.size then some (i.size, i.bytes) else none
      | none => none
    | none => none
  | _ => none
theorem appT_ok {P : Program} {t : TypeId} {sz bytes : Nat} (h : appT P t = some (sz, bytes)) : AppT P t sz bytes := by
  unfold appT at h
  split at h
  case h_2 => cases h
  rename_i e hu
  split at h
  case h_2 => cases h
  rename_i i hi
  split at h
  case h_2 => cases h
  rename_i z hz
  split at h
  case isFalse => cases h
  rename_i hc
  cases h
  exact ⟨e, i, z, hu, hi, hz, rfl, rfl, hc.1, hc.2⟩

def cR (P : Program) : Op → Option ROp
  | .load t x => do pure (.load (← isRowT P t) (← szT P t) (← cO x))
  | .lookup t m k ok => do
    let p ← mapT P t
    pure (.lookup (← zeroV P p.2.2) ok p.2.1 (← cO m) (← cO k))
  | _ => none
def srcT (P : Program) (t : TypeId) : Bool :=
  match P.underlying t with
  | some (.slice _) => true
  | some .string => true
  | _ => false
theorem srcT_ok {P : Program} {t : TypeId} (h : srcT P t = true) : (∃ e', P.underlying t = some (.slice e')) ∨ P.underlying t = some .string := by
  unfold srcT at h
  split at h
  · rename_i e he; exact .inl ⟨e, he⟩
  · rename_i he; exact .inr he
  · cases h
/-- 'q': the functions whose calls are frozen behind. -/
def cE (P : Program) (q : Nat → Bool) : Op → Option EOp
  | .store t x y => do pure (.store (← cO x) (← cO y) (← szT P t))
  | .call c => match c.callee with
    | .builtin .append => match c.args.toList, c.argTypes.toList with
      | [x, y], [t, t'] => if srcT P t' = true then do
          let p ← appT P t
          pure (.append p.1 p.2 (← cO x) (← cO y))
        else none
      | _, _ => none
    | .value (.func f) => (cOs c.args.toList).map (.call (q f) f)
    | .value (.tmp t) => (cOs c.args.toList).map (.callv true (.tmp t))
    | _ => none
  | .mapUpdate t m k x => do
    let p ← mapT P t
    pure (.mapset p.2.1 (← cO m) (← cO k) (← cO x))
  | .mapEntry t m k => do
    let p ← mapT P t
    pure (.mapent p.2.1 (← zeroV P p.2.2) (← cO m) (← cO k))
  | .entryStore _ m st x => do pure (.entset (← cO m) (← cO st) (← cO x))
  | _ => none
def cOp (P : Program) (q : Nat → Bool) (op : Op) : AOp :=
  match cP P op with
  | some p => .p p
  | none => match cR P op with
    | some r => .r r
    | none => match cK P op with
      | some k => .k k
      | none => match cL P op with
        | some l => .l l
        | none => match cE P q op with
          | some e => .e e
          | none => .e .bad
/-- The i-th operation of a row. -/
def cI (P : Program) (q : Nat → Bool) (ops : Array Oper) (i : Nat) : AIns :=
  match ops[i]? with
  | none => { ix := i, dst := none, guard := none, op := .e .bad, ck := [] }
  | some o => match o.guard with
    | none => { ix := i, dst := o.dst, guard := none, op := cOp P q o.op, ck := [] }
    | some (j, want) => match (ops[j]?).bind (·.dst) with
      | some t => { ix := i, dst := o.dst, guard := some (t, want), op := cOp P q o.op, ck := [] }
      | none => { ix := i, dst := none, guard := none, op := .e .bad, ck := [] }

theorem callFunc_run {P : Program} {f : Nat} (h : Enters P f) (args : Array Value) (w : World) : (callFunc f args).run P w = .ok (.enter f args) w := by
  obtain ⟨fn, h1, h2, h3⟩ := h
  have h3' : fn.body.isNone = false := by cases hb : fn.body <;> simp_all
  simp only [callFunc, Sem.run_bind, run_program, Result.andThen_ok, h1, h2, h3', Bool.false_eq_true, if_false]
  rfl

section
variable {P : Program} {N : Nat} {ρ : Env} {F : Fr} {a : Act} {o : Oper} {v : AV} {s s' : AS} {w : World} {call : Nat → List AV → M AV}

/-- What one operation leaves. -/
theorem e_ok (hc : CallOk P call) {q : Nat → Bool} (hw : OkW N ρ s w) (hF : FrOk ρ F a) {e : EOp} (he : cE P q o.op = some e) {aid : Nat} (hlt : aid < s.n) (hnew : ρ.loc aid = none) (hlim : s.lim ≤ aid) (hv : e.ev call F aid s = some (v, s')) :
    (s.n ≤ s'.n ∧ s'.lim = s.lim ∧ ∀ id, id < s.lim → s'.h id = s.h id) ∧
    ∀ (K : Act → World → Prop) (Q : Exit → Act → World → Prop), (∀ V w' ρ', Done P N ρ w v s' (fun id => id = aid ∨ s.n ≤ id) V w' ρ' → K (a.put o.dst V) w') → o.wp P a w K Q := by
  generalize ho : o.op = op at he
  unfold cE at he
  split at he
  · rename_i t x y
    simp only [Option.bind_eq_bind, Option.bind_eq_some_iff, Option.pure_def, Option.some.injEq] at he
    obtain ⟨x', hx, y', hy, sz, hs, rfl⟩ := he
    obtain ⟨w', r1, rfl, r3, r4, r5, r6, r7⟩ := e_store hw hF hs ho hx hy hv
    refine ⟨⟨by omega, r6, r7⟩, fun K Q hK => ?_⟩
    unfold Oper.wp
    rw [r1]
    show K (a.put o.dst undef) w'
    exact hK _ _ ρ ⟨Ext.refl _, .tup (vs := #[]) rfl (fun j x h => by cases h), r3, r4, fun _ _ => rfl⟩
  · rename_i c
    split at he
    · rename_i hcb
      split at he
      case h_2 => cases he
      rename_i x y t t' ha ht
      split at he
      case isFalse => cases he
      rename_i htt
      simp only [Option.bind_eq_bind, Option.bind_eq_some_iff, Option.pure_def, Option.some.injEq] at he
      obtain ⟨p, hp, x', hx, y', hy, rfl⟩ := he
      obtain ⟨V, w', ρ', r1, r2, r3, r4, r5⟩ := e_append hw hF (appT_ok hp) (srcT_ok htt) ho hcb (by rw [← Array.toList_inj]; simpa using ht) (by rw [← Array.toList_inj]; simpa using ha) hx hy hlt hnew hlim hv
      refine ⟨⟨by omega, r4, r5⟩, fun K Q hK => ?_⟩
      unfold Oper.wp
      rw [r1]
      exact hK V w' ρ' ⟨r2.ext, r2.rel, r2.ok, r2.bel, fun id hid => r2.keep id (fun q => hid (.inl q))⟩
    · rename_i f hcb
      simp only [Option.map_eq_some_iff] at he
      obtain ⟨as_, ha, rfl⟩ := he
      have hargs := cOs_ev hF ha
      have hin : Enters P f := by
        simp only [EOp.ev] at hv
        split at hv
        · unfold quiet at hv
          split at hv
          · rename_i h1; exact hc.into _ _ _ _ _ h1
          · cases hv
        · exact hc.into _ _ _ _ _ hv
      have hrun : (execOp a.eval o).run P w = .ok (.enter f (c.args.toList.map a.eval).toArray) w := by
        have e : (c.args.map a.eval) = (c.args.toList.map a.eval).toArray := Array.ext' (by simp)
        simp [execOp, ho, resolve, hcb, Act.eval, Deferred.ofValue, invoke, callFunc_run hin, e]
      have hst : s.n ≤ s'.n ∧ s'.lim = s.lim ∧ ∀ id, id < s.lim → s'.h id = s.h id := by
        simp only [EOp.ev] at hv
        split at hv
        · obtain ⟨g1, g2, g3⟩ := quiet_stat hc hv
          exact ⟨g1, g2, fun id _ => by rw [g3]⟩
        · exact hc.stat _ _ _ _ _ hv (by omega)
      refine ⟨hst, fun K Q hK => ?_⟩
      unfold Oper.wp
      rw [hrun]
      have hcl : Calls P f (c.args.toList.map a.eval).toArray w fun e w' => ∃ V ρ', e = .returned V ∧ Done P N ρ w v s' (fun id => s.n ≤ id) V w' ρ' := by
        simp only [EOp.ev] at hv
        split at hv
        · exact quiet_run hc hv hw hargs
        · exact hc.run _ _ _ _ _ hv (by omega) N ρ w _ hw hargs
      refine hcl.mono fun e w' => ?_
      rintro ⟨V, ρ', rfl, hd⟩
      exact hK V w' ρ' ⟨hd.ext, hd.rel, hd.ok, hd.bel, fun id hid => hd.keep id (fun q => hid (.inr q))⟩
    · rename_i t hcb
      simp only [Option.map_eq_some_iff] at he
      obtain ⟨as_, ha, rfl⟩ := he
      have hargs := cOs_ev hF ha
      simp only [EOp.ev] at hv
      split at hv
      case h_2 => cases hv
      rename_i g caps hg
      simp only [if_true] at hv
      have hfv := hF.ev (o := .tmp t) (x := .tmp t) rfl
      rw [hg] at hfv
      obtain ⟨vs, hX, hl⟩ := hfv.of_fn
      have hin : Enters P g := by
        unfold quiet at hv
        split at hv
        · rename_i h1; exact hc.into _ _ _ _ _ h1
        · cases hv
      have hrun : (execOp a.eval o).run P w = .ok (.enter g ((c.args.toList.map a.eval) ++ vs).toArray) w := by
        have e : (c.args.map a.eval) ++ vs.toArray = ((c.args.toList.map a.eval) ++ vs).toArray := Array.ext' (by simp)
        simp [execOp, ho, resolve, hcb, hX, Deferred.ofValue, invoke, callFunc_run hin, e]
      obtain ⟨g1, g2, g3⟩ := quiet_stat hc hv
      refine ⟨⟨g1, g2, fun id _ => by rw [g3]⟩, fun K Q hK => ?_⟩
      unfold Oper.wp
      rw [hrun]
      refine (quiet_run hc hv hw (hargs.append hl)).mono fun e w' => ?_
      rintro ⟨V, ρ', rfl, hd⟩
      exact hK V w' ρ' ⟨hd.ext, hd.rel, hd.ok, hd.bel, fun id hid => hd.keep id (fun q => hid (.inr q))⟩
    · cases he
  · rename_i t m k x
    simp only [Option.bind_eq_bind, Option.bind_eq_some_iff, Option.pure_def, Option.some.injEq] at he
    obtain ⟨⟨kt, ks, et⟩, hp, m', hm, k', hk, x', hx, rfl⟩ := he
    obtain ⟨w', r1, rfl, r3, r4, r5, r6, r7⟩ := e_mapset hw hF hp ho hm hk hx hv
    refine ⟨⟨by omega, r6, r7⟩, fun K Q hK => ?_⟩
    unfold Oper.wp
    rw [r1]
    show K (a.put o.dst undef) w'
    exact hK _ _ ρ ⟨Ext.refl _, .tup (vs := #[]) rfl (fun j x h => by cases h), r3, r4, fun _ _ => rfl⟩
  · rename_i t m k
    simp only [Option.bind_eq_bind, Option.bind_eq_some_iff, Option.pure_def, Option.some.injEq] at he
    obtain ⟨⟨kt, ks, et⟩, hp, z, hz, m', hm, k', hk, rfl⟩ := he
    obtain ⟨V, w', r1, r2, r3, r4, r5, r6, r7⟩ := e_mapent hw hF hp hz ho hm hk hv
    refine ⟨⟨by omega, r6, r7⟩, fun K Q hK => ?_⟩
    unfold Oper.wp
    rw [r1]
    exact hK V w' ρ ⟨Ext.refl _, r2, r3, r4, fun _ _ => rfl⟩
  · rename_i t m st x
    simp only [Option.bind_eq_bind, Option.bind_eq_some_iff, Option.pure_def, Option.some.injEq] at he
    obtain ⟨m', hm, st', hst, x', hx, rfl⟩ := he
    obtain ⟨w', r1, rfl, r3, r4, r5, r6, r7⟩ := e_entset (P := P) hw hF ho hm hst hx hv
    refine ⟨⟨by omega, r6, r7⟩, fun K Q hK => ?_⟩
    unfold Oper.wp
    rw [r1]
    show K (a.put o.dst undef) w'
    exact hK _ _ ρ ⟨Ext.refl _, .tup (vs := #[]) rfl (fun j x h => by cases h), r3, r4, fun _ _ => rfl⟩
  · cases he
end
end
end Go.Proofs.Ytgcciohenncplaa.Ai
