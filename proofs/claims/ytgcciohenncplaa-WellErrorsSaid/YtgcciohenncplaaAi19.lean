/- A row whose order is open: two operations that are not bound to each other may change places. -/
import Derived.Test.YtgcciohenncplaaAi18
namespace Go.Proofs.Ytgcciohenncplaa.Ai
noncomputable section
open Go.RowKit (Below)

def POp.opds : POp → List Opd
  | .mv x | .nilchk x | .notb x | .negi x | .fld _ x | .part _ _ _ x | .lenS _ x | .extract x _ | .conv _ x => [x]
  | .pick c a b => [c, a, b]
  | .build _ ps => ps.map (·.2.2)
  | .bin _ x y | .eqb _ x y | .eqnil _ _ x y | .eqs _ _ x y | .idx _ x y | .idxa _ _ x y | .idxs x y | .mini x y | .maxi x y => [x, y]
  | .cuts x lo hi => x :: (lo.toList ++ hi.toList)
  | .cut _ x lo hi mx => x :: (lo.toList ++ (hi.toList ++ mx.toList))
  | .mkfn _ cs => cs
def ROp.opds : ROp → List Opd
  | .load _ _ a => [a]
  | .lookup _ _ _ m k => [m, k]
  | .lenM m => [m]
  | .b2s x => [x]
def LOp.opds : LOp → List Opd
  | .alloc _ | .mkmap | .allocB => []
  | .box x | .mkrow _ x => [x]
def EOp.opds : EOp → List Opd
  | .store a v _ => [a, v]
  | .append _ _ s x => [s, x]
  | .mapset _ m k v => [m, k, v]
  | .mapent _ _ m k => [m, k]
  | .entset m st v => [m, st, v]
  | .call _ _ as_ => as_
  | .callv _ f as_ => f :: as_
  | .bad => []
def AOp.opds : AOp → List Opd
  | .p o => o.opds
  | .r o => o.opds
  | .k o => o.parts.map (·.2)
  | .l o => o.opds
  | .e o => o.opds
def AIns.looks (i : AIns) : List Nat :=
  (i.op.opds.filterMap fun | .tmp t => some t | .const _ => none) ++ (match i.guard with | some (g, _) => [g] | none => [])

theorem POp.congr {F F' : Fr} {o : POp} (h : ∀ x ∈ o.opds, x.ev F = x.ev F') : o.ev F = o.ev F' := by
  cases o with
  | build z ps =>
    have e : (ps.map fun p => (p.1, p.2.1, p.2.2.ev F)) = (ps.map fun p => (p.1, p.2.1, p.2.2.ev F')) := List.map_congr_left fun p hp => by rw [h p.2.2 (List.mem_map.2 ⟨p, hp, rfl⟩)]
    simp only [POp.ev, e]
  | mkfn f cs =>
    have e : (cs.map (·.ev F)) = (cs.map (·.ev F')) := List.map_congr_left fun p hp => h p hp
    simp only [POp.ev, e]
  | cuts x lo hi => cases lo <;> cases hi <;> simp_all [POp.ev, POp.opds, bound]
  | cut sz x lo hi mx => cases lo <;> cases hi <;> cases mx <;> simp_all [POp.ev, POp.opds, bound, optNat]
  | _ => simp_all [POp.ev, POp.opds]
theorem ROp.congr {F F' : Fr} {o : ROp} (h : ∀ x ∈ o.opds, x.ev F = x.ev F') (hp : Heap) : o.ev F hp = o.ev F' hp := by
  cases o <;> simp_all [ROp.ev, ROp.opds]
theorem KOp.congr {F F' : Fr} {o : KOp} (h : ∀ x ∈ o.parts.map (·.2), x.ev F = x.ev F') : o.ev F = o.ev F' := by
  have e : (o.parts.map fun p => (p.1, p.2.ev F)) = (o.parts.map fun p => (p.1, p.2.ev F')) := List.map_congr_left fun p hp => by rw [h p.2 (List.mem_map.2 ⟨p, hp, rfl⟩)]
  simp only [KOp.ev, e]
theorem LOp.congr {F F' : Fr} {o : LOp} (h : ∀ x ∈ o.opds, x.ev F = x.ev F') (aid : Nat) : o.ev F aid = o.ev F' aid := by
  cases o <;> simp_all [LOp.ev, LOp.opds]
theorem EOp.congr {call : Nat → List AV → M AV} {F F' : Fr} {o : EOp} (h : ∀ x ∈ o.opds, x.ev F = x.ev F') (aid : Nat) : o.ev call F aid = o.ev call F' aid := by
  funext s
  cases o with
  | call q f as_ =>
    have e : (as_.map (·.ev F)) = (as_.map (·.ev F')) := List.map_congr_left fun p hp => h p hp
    simp only [EOp.ev, e]
  | callv q f as_ =>
    have e : (as_.map (·.ev F)) = (as_.map (·.ev F')) := List.map_congr_left fun p hp => h p (List.mem_cons_of_mem _ hp)
    have e2 := h f (by simp [EOp.opds])
    simp only [EOp.ev, e, e2]
  | _ => simp_all [EOp.ev, EOp.opds]
theorem AOp.congr {call : Nat → List AV → M AV} {F F' : Fr} {o : AOp} (h : ∀ x ∈ o.opds, x.ev F = x.ev F') (aid : Nat) : o.ev call F aid = o.ev call F' aid := by
  funext s
  cases o with
  | p o => simp only [AOp.ev, POp.congr h]
  | r o => simp only [AOp.ev, ROp.congr h]
  | k o => simp only [AOp.ev, KOp.congr h]
  | l o => simp only [AOp.ev, LOp.congr h]
  | e o => simp only [AOp.ev, EOp.congr h]

theorem putD_ev {F : Fr} {d : Option Nat} {v : AV} {x : Opd} (h : ∀ t i, x = .tmp t → d = some i → i ≠ t) : x.ev (putD F d v) = x.ev F := by
  cases x with
  | const u => rfl
  | tmp t =>
    cases d with
    | none => rfl
    | some i =>
      have := h t i rfl rfl
      show (F.set i v).getD t .top = F.getD t .top
      simp [List.getD_eq_getElem?_getD, List.getElem?_set_ne this]
/-- What an operation writes, another doesn't look at. -/
def noLook (d : Option Nat) (i : AIns) : Bool := match d with
  | some t => !(i.looks.contains t)
  | none => true
theorem noLook_opds {d : Option Nat} {i : AIns} (h : noLook d i = true) {F : Fr} {v : AV} : ∀ x ∈ i.op.opds, x.ev (putD F d v) = x.ev F := by
  intro x hx
  refine putD_ev fun t j he hd hjt => ?_
  subst hd; subst he; subst hjt
  simp only [noLook, Bool.not_eq_true', List.contains_eq_mem, decide_eq_false_iff_not] at h
  exact h (List.mem_append_left _ (List.mem_filterMap.2 ⟨.tmp j, hx, rfl⟩))
theorem noLook_wanted {d : Option Nat} {i : AIns} (h : noLook d i = true) {F : Fr} {v : AV} : wantedG (putD F d v) i.guard = wantedG F i.guard := by
  unfold wantedG
  cases hg : i.guard with
  | none => rfl
  | some gw =>
    obtain ⟨g, want⟩ := gw
    cases d with
    | none => rfl
    | some t =>
      simp only [noLook, Bool.not_eq_true', List.contains_eq_mem, decide_eq_false_iff_not] at h
      have : t ≠ g := fun e => h (List.mem_append_right _ (by rw [hg]; simp [e]))
      have e : (putD F (some t) v).getD g .top = F.getD g .top := by
        show (F.set t v).getD g .top = _
        simp [List.getD_eq_getElem?_getD, List.getElem?_set_ne this]
      simp only [e]
theorem putD_comm {F : Fr} {d e : Option Nat} {u v : AV} (h : ∀ i, d = some i → e ≠ some i) : putD (putD F d u) e v = putD (putD F e v) d u := by
  cases d with
  | none => rfl
  | some i =>
    cases e with
    | none => rfl
    | some j =>
      have : i ≠ j := fun q => h i rfl (by rw [q])
      show (F.set i u).set j v = (F.set j v).set i u
      exact List.set_comm _ _ this

theorem all2_eq {f : AV → AV → Bool} (hf : ∀ x y, f x y = true → x = y) : ∀ {l r : List AV}, all2 f l r = true → l = r
  | [], [], _ => rfl
  | x :: xs, y :: ys, h => by
    simp only [all2, Bool.and_eq_true] at h
    rw [hf _ _ h.1, all2_eq hf h.2]
  | [], _ :: _, h => by simp [all2] at h
  | _ :: _, [], h => by simp [all2] at h
theorem all2_eq2 {f : AV → AV → Bool} (hf : ∀ x y, f x y = true → x = y) : ∀ {l r : List (List AV)}, all2 (all2 f) l r = true → l = r
  | [], [], _ => rfl
  | x :: xs, y :: ys, h => by
    simp only [all2, Bool.and_eq_true] at h
    rw [all2_eq hf h.1, all2_eq2 hf h.2]
  | [], _ :: _, h => by simp [all2] at h
  | _ :: _, [], h => by simp [all2] at h
theorem beqN {a b : Nat} (h : Nat.beq a b = true) : a = b := Nat.eq_of_beq_eq_true h
theorem same_eq : ∀ (d : Nat) (x y : AV), same d x y = true → x = y
  | 0, _, _, h => by simp [same] at h
  | d + 1, x, y, h => by
    have ih := same_eq d
    unfold same at h
    split at h <;> first | rfl | (simp at h; done) | skip
    all_goals (try simp only [Bool.and_eq_true, decide_eq_true_eq, beq_iff_eq] at h)
    · rw [h]
    · rw [h.1, h.2]
    · rw [h]
    · rw [beqN h.1.1, beqN h.1.2, beqN h.2]
    · rw [beqN h.1, all2_eq ih h.2]
    · rw [beqN h.1.1.1.1, beqN h.1.1.1.2, beqN h.1.1.2, beqN h.1.2, h.2]
    · rw [all2_eq2 ih h]
    · rw [beqN h]
    · rw [beqN h.1, all2_eq ih h.2]
    · rw [all2_eq ih h]
    · rw [all2_eq ih h]

end
end Go.Proofs.Ytgcciohenncplaa.Ai
