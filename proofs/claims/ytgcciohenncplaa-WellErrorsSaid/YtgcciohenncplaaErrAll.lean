/- WellErrors: whatever the number, the run answers true. -/
import Derived.Test.YtgcciohenncplaaErrC
set_option linter.all false
namespace Go.Proofs.Ytgcciohenncplaa.Ai
open Go.RowKit

def w6x : W6 → AV := fun ⟨_, _, x3, _, _⟩ => x3
/-- The row of texts and errors. -/
noncomputable def errRows : AV := ((S6r1 (R := AV) (fun _ _ _ => none) (.mk .top .top .top .top .top) 0 nh (fun w _ => some (w6x w))).getD .top)
theorem S6r1_eq {R : Type} (call : Nat → List AV → M AV) (x0 a b c d : AV) (base : Nat) (s : AS) (k : W6 → AS → Option R) : S6r1 call (.mk x0 a b c d) base s k = k (.mk x0 .top errRows .top .top) s := by kernel_rfl
theorem errLen : lenAQ false errRows = some (.int .i64 23) := by kernel_rfl

def mask (n m : Int) : Int := IntKind.i64.wrap ((BitVec.ofInt IntKind.i64.bits n &&& BitVec.ofInt IntKind.i64.bits m).toNat : Nat)
theorem and_mask (n m : Int) : binA .and (.int .i64 n) (.int .i64 m) = some (.int .i64 (mask n m)) := by
  simp only [binA, mask, if_pos]
theorem mask_le (n : Int) (m : Nat) (hm : m ≤ 9223372036854775807) : ∃ r : Nat, mask n m = r ∧ r ≤ m := by
  have h1 : (BitVec.ofInt IntKind.i64.bits n &&& BitVec.ofInt IntKind.i64.bits (m : Int)).toNat ≤ m := by
    rw [BitVec.toNat_and]
    refine Nat.le_trans Nat.and_le_right ?_
    rw [BitVec.toNat_ofInt]
    show ((m : Int) % (2 ^ 64 : Nat)).toNat ≤ m
    have : (m : Int) % ((2 ^ 64 : Nat) : Int) = m := by omega
    rw [this]; simp
  refine ⟨_, ?_, h1⟩
  unfold mask
  exact wrap_small (by omega)
theorem rem_val (a b : Int) (hb : b ≠ 0) : binA .rem (.int .i64 a) (.int .i64 b) = some (.int .i64 (a.tmod b)) := by
  simp only [binA, if_pos, if_neg hb]
theorem mask255 : ∀ r : Nat, r < 23 → mask r 255 = r := by
  have : ((List.range 23).all fun r => mask (r : Int) 255 == (r : Int)) = true := by kernel_rfl
  intro r hr
  have := List.all_eq_true.1 this r (List.mem_range.2 (by omega))
  simpa using this

theorem S6_red (call : Nat → List AV → M AV) (fuel : Nat) (n n' : Int) (s : AS) (hn : (mask n 255).tmod 23 = (mask n' 255).tmod 23) :
    S6 call fuel [.int .i64 n] s = S6 call fuel [.int .i64 n'] s := by
  have h23 : (23 : Int) ≠ 0 := by decide
  simp only [S6, S6c, sSeq, sReg, S6r0, S6r1_eq, S6r2, errLen, bndP_some, binQ_eq, and_mask, rem_val _ _ h23, hn, forceN_eq]

theorem err_run (n : Int) : okT (scall E1 200 6 [.int .i64 n] nh) = true := by
  obtain ⟨a, ha, hal⟩ := mask_le n 255 (by omega)
  have key : ∀ (n : Int), scall E1 200 6 [.int .i64 n] nh = S6 (scall E1 199) 199 [.int .i64 n] nh := fun n => by kernel_rfl
  have hlt : a % 23 < 23 := Nat.mod_lt _ (by decide)
  have hr : (mask n 255).tmod 23 = (mask ((a % 23 : Nat) : Int) 255).tmod 23 := by
    have h1 : mask n 255 = (a : Int) := ha
    rw [mask255 _ hlt, h1]
    rw [Int.tmod_eq_emod_of_nonneg (by omega), Int.tmod_eq_emod_of_nonneg (by omega)]
    omega
  rw [key, S6_red _ _ n ((a % 23 : Nat) : Int) nh hr, ← key]
  exact errC (a % 23) hlt

theorem err_calls (n : Int) (w : World) : Calls Try.prog 6 #[.int .i64 n] w fun e w' => e = .returned (.bool true) ∧ Below w.heap.size w w' :=
  closed_true (scall_ok E1_ok 200) (err_run n) (.cons .int .nil) w

end Go.Proofs.Ytgcciohenncplaa.Ai
