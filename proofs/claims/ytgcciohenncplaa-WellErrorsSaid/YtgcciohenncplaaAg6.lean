/- Runs that begin with nothing, and a function of no arguments that such a run has told. -/
import Derived.Test.YtgcciohenncplaaAg5
namespace Go.Proofs.Ytgcciohenncplaa.Ai
noncomputable section
open Go.RowKit

/-- Nothing is owned. -/
def nh : AS := ⟨fun _ => none, 0, 0⟩
/-- Nothing is known. -/
def nenv : Env := { loc := fun _ => none, imm := fun _ _ => none }

theorem start_ok (w : World) : OkW w.heap.size nenv nh w :=
  ⟨fun _ _ h => (by cases h), fun _ _ _ _ h => absurd rfl h, fun _ _ _ h => (by cases h), fun _ _ _ h => absurd rfl h, fun _ _ => rfl, Nat.le_refl _⟩

theorem closed_calls {P : Program} {call : Nat → List AV → M AV} (hc : CallOk P call) {f : Nat} {args : List AV} {v : AV} {s1 : AS} (h : call f args nh = some (v, s1)) {Vs : List Value} (ha : RelL nenv args Vs) (w : World) :
    Calls P f Vs.toArray w fun e w' => ∃ V ρ', e = .returned V ∧ Rel ρ' v V ∧ Below w.heap.size w w' :=
  (hc.run _ _ _ _ _ h (Nat.le_refl _) _ _ w Vs (start_ok w) ha).mono fun _ _ ⟨V, ρ', he, hd⟩ => ⟨V, ρ', he, hd.rel, hd.bel⟩

/-- Did it answer true? -/
def okT (o : Option (AV × AS)) : Bool := match o with
  | some (.bool true, _) => true
  | _ => false

theorem okT_inv {o : Option (AV × AS)} (h : okT o = true) : ∃ s, o = some (.bool true, s) := by
  unfold okT at h
  split at h
  · exact ⟨_, rfl⟩
  · cases h

theorem closed_true {P : Program} {call : Nat → List AV → M AV} (hc : CallOk P call) {f : Nat} {args : List AV} (h : okT (call f args nh) = true) {Vs : List Value} (ha : RelL nenv args Vs) (w : World) :
    Calls P f Vs.toArray w fun e w' => e = .returned (.bool true) ∧ Below w.heap.size w w' := by
  obtain ⟨s, hs⟩ := okT_inv h
  refine (closed_calls hc hs ha w).mono fun e w' ⟨V, ρ', he, hr, hb⟩ => ?_
  cases hr
  exact ⟨he, hb⟩

/-- It answers true. -/
def gTrue (args : List AV) (s : AS) : Option (AV × AS) :=
  match args with
  | [] => some (.bool true, s)
  | _ => none

theorem true_one {P : Program} {call : Nat → List AV → M AV} (hc : CallOk P call) {f : Nat} (h : okT (call f [] nh) = true) : GOne P f gTrue := by
  have inv : ∀ args s v s', gTrue args s = some (v, s') → args = [] ∧ v = .bool true ∧ s' = s := by
    intro args s v s' h
    unfold gTrue at h
    split at h
    · cases h; exact ⟨rfl, rfl, rfl⟩
    · cases h
  obtain ⟨s1, hs⟩ := okT_inv h
  refine ⟨hc.into _ _ _ _ _ hs, ?_, ?_⟩
  · intro args s v s' h hl
    obtain ⟨rfl, rfl, rfl⟩ := inv args s v s' h
    exact ⟨Nat.le_refl _, rfl, fun _ _ => rfl⟩
  · intro args s v s' h' hl N ρ w Vs hw ha
    obtain ⟨rfl, rfl, rfl⟩ := inv args s v s' h'
    obtain rfl : Vs = [] := List.length_eq_zero_iff.1 ha.len
    refine (closed_true hc h .nil w).mono fun e w' ⟨he, hb⟩ => ?_
    exact ⟨_, ρ, he, Ext.refl ρ, .bool, hw.below hb, hb.mono hw.size, fun _ _ => rfl⟩

end
end Go.Proofs.Ytgcciohenncplaa.Ai
