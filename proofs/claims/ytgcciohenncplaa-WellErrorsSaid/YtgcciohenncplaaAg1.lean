/- Functions that are known otherwise: IndexByte. -/
import Derived.Test.YtgcciohenncplaaAi24
import Derived.WalkKit
import Derived.KernelRfl
import Derived.Lib.Bytealg
import Derived.Laws.Externs
import Derived.Deep.Draws
namespace Go.Proofs.Ytgcciohenncplaa.Ai
open Go.RowKit

set_option maxHeartbeats 1000000 in
set_option maxRecDepth 100000 in
theorem indexByte_calls (s : ByteArray) (c : Int) (w : World) :
    Calls Try.prog 117 #[.string s, .int .u8 c] w fun e w' => e = .returned (.int .i64 (Lib.indexByte s.data.toList c.toNat.toUInt8)) ∧ w' = w := by
  go_enter Try.func117, Try.ntmps117
  go_wp2
  rw [run_callFunc_extern Try.func127 (by kernel_rfl) (by kernel_rfl) (by kernel_rfl) (e := Extern.BytealgIndexByte.indexByte) (by kernel_rfl), Lib.run_indexByteString]
  simp only [Result.andThen]
  rw [Oper.upon_value]
  go_wp2
  go_ret
  exact ⟨rfl, rfl⟩

def gIndexByte (args : List AV) (s : AS) : Option (AV × AS) :=
  match args with
  | [.str l, .int .u8 c] => some (.int .i64 (Lib.indexByte l c.toNat.toUInt8), s)
  | _ => none

/-- What one such function has to keep: the function numbered f. -/
structure GOne (P : Program) (f : Nat) (g : List AV → AS → Option (AV × AS)) : Prop where
  into : Enters P f
  stat : ∀ args s v s', g args s = some (v, s') → s.lim ≤ s.n → s.n ≤ s'.n ∧ s'.lim = s.lim ∧ ∀ id, id < s.lim → s'.h id = s.h id
  run : ∀ args s v s', g args s = some (v, s') → s.lim ≤ s.n → ∀ N ρ w (Vs : List Value), OkW N ρ s w → RelL ρ args Vs →
    Calls P f Vs.toArray w fun e w' => ∃ V ρ', e = .returned V ∧ Done P N ρ w v s' (fun id => s.n ≤ id) V w' ρ'

/-- A row of such functions. -/
noncomputable def gRow (l : List (Nat × (List AV → AS → Option (AV × AS)))) : Nat → List AV → M AV :=
  @List.rec _ (fun _ => Nat → List AV → M AV) (fun _ _ _ => none) (fun g _ ih f args s => @Bool.rec (fun _ => Option (AV × AS)) (ih f args s) (g.2 args s) (Nat.beq f g.1)) l
theorem gRow_cons (g : Nat × (List AV → AS → Option (AV × AS))) (r : List (Nat × (List AV → AS → Option (AV × AS)))) (f : Nat) (args : List AV) (s : AS) :
    gRow (g :: r) f args s = bif Nat.beq f g.1 then g.2 args s else gRow r f args s := by
  show @Bool.rec (fun _ => Option (AV × AS)) (gRow r f args s) (g.2 args s) (Nat.beq f g.1) = _
  cases Nat.beq f g.1 <;> rfl

theorem gRow_ok {P : Program} : ∀ (l : List (Nat × (List AV → AS → Option (AV × AS)))), (∀ g ∈ l, GOne P g.1 g.2) → GOk P (gRow l)
  | [], _ => ⟨fun f args s v s' h => (by cases h), fun f args s v s' h => (by cases h), fun f args s v s' h => (by cases h)⟩
  | g :: r, hall => by
    have ih := gRow_ok r (fun x hx => hall x (List.mem_cons_of_mem _ hx))
    have hg := hall g List.mem_cons_self
    have key : ∀ f args s v s', gRow (g :: r) f args s = some (v, s') → (f = g.1 ∧ g.2 args s = some (v, s')) ∨ gRow r f args s = some (v, s') := by
      intro f args s v s' h
      rw [gRow_cons] at h
      cases hb : Nat.beq f g.1 with
      | true => rw [hb, cond_true] at h; exact .inl ⟨Nat.eq_of_beq_eq_true hb, h⟩
      | false => rw [hb, cond_false] at h; exact .inr h
    refine ⟨fun f args s v s' h => ?_, fun f args s v s' h => ?_, fun f args s v s' h => ?_⟩
    · rcases key f args s v s' h with ⟨rfl, h1⟩ | h1
      · exact hg.stat args s v s' h1
      · exact ih.stat f args s v s' h1
    · rcases key f args s v s' h with ⟨rfl, h1⟩ | h1
      · exact hg.into
      · exact ih.into f args s v s' h1
    · rcases key f args s v s' h with ⟨rfl, h1⟩ | h1
      · exact hg.run args s v s' h1
      · exact ih.run f args s v s' h1

theorem indexByte_one : GOne Try.prog 117 gIndexByte := by
  have inv : ∀ args s v s', gIndexByte args s = some (v, s') → ∃ l c, args = [.str l, .int .u8 c] ∧ v = .int .i64 (Lib.indexByte l c.toNat.toUInt8) ∧ s' = s := by
    intro args s v s' h
    unfold gIndexByte at h
    split at h
    · rename_i l c; cases h; exact ⟨l, c, rfl, rfl, rfl⟩
    · cases h
  refine ⟨⟨_, Try.func117, by kernel_rfl, by kernel_rfl⟩, ?_, ?_⟩
  · intro args s v s' h hl
    obtain ⟨l, c, rfl, rfl, rfl⟩ := inv args s v s' h
    exact ⟨Nat.le_refl _, rfl, fun _ _ => rfl⟩
  · intro args s v s' h hl N ρ w Vs hw ha
    obtain ⟨l, c, rfl, rfl, rfl⟩ := inv args s v s' h
    match Vs, ha, ha.len with
    | [V1, V2], ha, _ =>
      have h1 : Rel ρ (.str l) V1 := ha.at_ 0 _ rfl
      have h2 : Rel ρ (.int .u8 c) V2 := ha.at_ 1 _ rfl
      cases h1 with
      | @str _ b hb =>
        cases h2
        subst hb
        refine (indexByte_calls b c w).mono fun e w' ⟨he, hw'⟩ => ?_
        subst hw'
        exact ⟨_, ρ, he, Ext.refl ρ, .int, hw, Below.refl _ _, fun id _ => rfl⟩

end Go.Proofs.Ytgcciohenncplaa.Ai
