/- Operations that look at no memory are right. -/
import Derived.Test.YtgcciohenncplaaAi3
import Derived.WalkSpells
import Derived.Laws.StructEq
namespace Go.Proofs.Ytgcciohenncplaa.Ai
noncomputable section
open Go.RowKit (Below)

/-- What a computation gives, whatever the world. -/
def Gives (P : Program) (s : Sem Value) (V : Value) : Prop := ∀ w, s.run P w = .ok V w

theorem cBin_ok {P : Program} {ρ : Env} {op : BinOp} {b : ABin} (hb : cBin op = some b) {t : TypeId} {xo yo : Operand} {x y v : AV} {X Y : Value} (hv : binA b x y = some v) (hx : Rel ρ x X) (hy : Rel ρ y Y) :
    ∃ V, Rel ρ v V ∧ Gives P (do eqGuard op t xo yo X Y; binOp op t X Y) V := by
  have hop : b = match op with | .add => .add | .sub => .sub | .mul => .mul | .quo => .quo | .rem => .rem | .and => .and | .or => .or | .xor => .xor | .shl => .shl | .shr => .shr | .eql => .eql | .neq => .neq | .lss => .lss | .leq => .leq | .gtr => .gtr | .geq => .geq | .andNot => b := by
    cases op <;> cases hb <;> rfl
  unfold binA at hv
  split at hv
  all_goals first
    | (cases hv; done)
    | (cases hx; cases hy
       cases op <;> first | (cases hb; done) | skip
       all_goals first | (cases hop; done) | skip
       all_goals (try split at hv)
       all_goals (try split at hv)
       all_goals first | (cases hv; done) | skip
       all_goals cases hv
       all_goals (try subst_vars)
       all_goals first
         | (refine ⟨_, .int, fun w => ?_⟩; rename_i h; simp only [eqGuard, binOp, Op.shift]; simp [h]; done)
         | (refine ⟨_, .int, fun w => ?_⟩; simp_all [eqGuard, binOp, Op.intArith, Op.intDiv, Op.intBits]; done)
         | (refine ⟨_, .bool, fun w => ?_⟩; simp_all [eqGuard, binOp, Op.intCmp]; done)
         | (refine ⟨_, .bool, fun w => ?_⟩; simp_all [eqGuard, binOp, Op.stringOp, ByteArray.toList_eq]; done)
         | (refine ⟨_, .str (by rw [ByteArray.data_append, Array.toList_append]), fun w => ?_⟩; simp_all [eqGuard, binOp, Op.stringOp]; omega))

theorem run_underlying' {P : Program} {t : TypeId} {d : TypeDesc} (h : P.underlying t = some d) (w : World) : (underlying t).run P w = .ok d w := by
  simp [underlying, h]
theorem run_typeInfo' {P : Program} {t : TypeId} {i : TypeInfo} (h : P.info? t = some i) (w : World) : (typeInfo t).run P w = .ok i w := by
  simp [typeInfo, h]
theorem szT_info {P : Program} {t : TypeId} {n : Nat} (h : szT P t = some n) : ∃ i, P.info? t = some i ∧ i.size = n := by
  unfold szT at h
  simpa [Option.map_eq_some_iff] using h
theorem run_sizeOf' {P : Program} {t : TypeId} {n : Nat} (h : szT P t = some n) (w : World) : (sizeOf t).run P w = .ok n w := by
  obtain ⟨i, hi, rfl⟩ := szT_info h
  simp [sizeOf, run_typeInfo' hi]
theorem run_isAgg' {P : Program} {t : TypeId} {b : Bool} (h : isRowT P t = some b) (w : World) : (isAgg t).run P w = .ok b w := by
  unfold isRowT at h
  split at h
  · cases h; rename_i hu; simp [isAgg, run_underlying' hu]
  · cases h; rename_i hu; simp [isAgg, run_underlying' hu]
  · cases h; rename_i d h1 h2 hu
    simp only [isAgg, Sem.run_bind, run_underlying' hu, Result.andThen_ok]
    cases d <;> first | rfl | (exact absurd rfl (h1 _)) | (exact absurd rfl (h2 _ _))
  · cases h

theorem eqb_ok {P : Program} {ρ : Env} {op : BinOp} {neg : Bool} {t : TypeId} (ht : P.underlying t = some .bool) (ho : (op = .eql ∧ neg = false) ∨ (op = .neq ∧ neg = true)) {xo yo : Operand} {x y v : AV} {X Y : Value} (hv : eqbA neg x y = some v) (hx : Rel ρ x X) (hy : Rel ρ y Y) :
    ∃ V, Rel ρ v V ∧ Gives P (do eqGuard op t xo yo X Y; binOp op t X Y) V := by
  unfold eqbA at hv
  split at hv
  · cases hv; cases hx; cases hy
    refine ⟨_, .bool, fun w => ?_⟩
    rcases ho with ⟨rfl, rfl⟩ | ⟨rfl, rfl⟩ <;> simp [eqGuard, binOp, Op.equal, Op.maxDepth, run_equalIn_bool' w 9999 t _ _ ht]
  · cases hv

def kdOf : TypeDesc → Option Nat
  | .slice _ => some 0
  | .pointer _ => some 1
  | .map _ _ => some 2
  | .func _ _ _ => some 3
  | _ => none
set_option maxHeartbeats 4000000 in
theorem eqnil_ok {P : Program} {ρ : Env} {op : BinOp} {neg : Bool} {t : TypeId} {d : TypeDesc} {kd : Nat} (ht : P.underlying t = some d) (hk : kdOf d = some kd) (ho : (op = .eql ∧ neg = false) ∨ (op = .neq ∧ neg = true)) {xo yo : Operand} {x y v : AV} {X Y : Value} (hv : eqnilA neg kd x y = some v) (hx : Rel ρ x X) (hy : Rel ρ y Y) :
    ∃ V, Rel ρ v V ∧ Gives P (do eqGuard op t xo yo X Y; binOp op t X Y) V := by
  have key : ∃ b, v = .bool (b != neg) ∧ (∀ w, (Op.equalIn (9999 + 1) t X Y).run P w = .ok b w) ∧ (∀ w, (eqGuard op t xo yo X Y).run P w = .ok () w) ∧ (∀ w, (binOp .eql t X Y).run P w = ((Op.equal t X Y).run P w).andThen fun b w' => .ok (.bool b) w') ∧ (∀ w, (binOp .neq t X Y).run P w = ((Op.equal t X Y).run P w).andThen fun b w' => .ok (.bool (!b)) w') := by
    cases d <;> first | (cases hk; done) | skip
    all_goals (simp only [kdOf, Option.some.injEq] at hk; subst hk)
    all_goals unfold eqnilA at hv
    all_goals cases x <;> first | (simp only [isnil] at hv; done) | skip
    all_goals cases y <;> first | (simp only [isnil] at hv; done) | skip
    all_goals simp only [isnil, reduceCtorEq, Option.some.injEq] at hv
    all_goals (cases hx <;> cases hy)
    all_goals (subst hv; refine ⟨_, rfl, fun w => ?_, fun w => ?_, fun w => ?_, fun w => ?_⟩)
    all_goals first | (unfold Op.equalIn; simp [run_underlying' ht]; done) | (rcases ho with ⟨rfl, rfl⟩ | ⟨rfl, rfl⟩ <;> simp [eqGuard]; done) | (simp [binOp]; done)
  obtain ⟨b, rfl, h1, h2, h3, h4⟩ := key
  refine ⟨_, .bool, fun w => ?_⟩
  have h5 : (Op.equal t X Y).run P w = .ok b w := h1 w
  rcases ho with ⟨rfl, rfl⟩ | ⟨rfl, rfl⟩
  · rw [Sem.run_bind, h2, Result.andThen_ok, h3, h5]; simp
  · rw [Sem.run_bind, h2, Result.andThen_ok, h4, h5]; simp

end
end Go.Proofs.Ytgcciohenncplaa.Ai
