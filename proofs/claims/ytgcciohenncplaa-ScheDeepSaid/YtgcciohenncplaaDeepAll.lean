/- ScheDeep: whatever the two numbers, the run answers true. -/
import Derived.Test.YtgcciohenncplaaDeepC0
import Derived.Test.YtgcciohenncplaaDeepC1
import Derived.Test.YtgcciohenncplaaDeepC2
import Derived.Test.YtgcciohenncplaaDeepC3
set_option linter.all false
namespace Go.Proofs.Ytgcciohenncplaa.Ai
open Go.RowKit

theorem mask_le (n : Int) (m : Nat) (hm : m ≤ 9223372036854775807) : ∃ r : Nat, mask n m = r ∧ r ≤ m := by
  have h1 : (BitVec.ofInt IntKind.i64.bits n &&& BitVec.ofInt IntKind.i64.bits (m : Int)).toNat ≤ m := by
    rw [BitVec.toNat_and]
    refine Nat.le_trans Nat.and_le_right ?_
    rw [BitVec.toNat_ofInt]
    show ((m : Int) % (2 ^ 64 : Nat)).toNat ≤ m
    have : (m : Int) % ((2 ^ 64 : Nat) : Int) = m := by omega
    rw [this]; simp
  refine ⟨_, ?_, h1⟩
  unfold mask
  exact wrap_small (by omega)

theorem mask31 : ∀ r : Nat, r ≤ 31 → mask r 31 = r := by
  have : ((List.range 32).all fun r => mask (r : Int) 31 == (r : Int)) = true := by kernel_rfl
  intro r hr
  have := List.all_eq_true.1 this r (List.mem_range.2 (by omega))
  simpa using this
theorem mask3 : ∀ r : Nat, r ≤ 3 → mask r 3 = r := by
  have : ((List.range 4).all fun r => mask (r : Int) 3 == (r : Int)) = true := by kernel_rfl
  intro r hr
  have := List.all_eq_true.1 this r (List.mem_range.2 (by omega))
  simpa using this

theorem S3_red (call : Nat → List AV → M AV) (fuel : Nat) (n k n' k' : Int) (s : AS) (hn : mask n 31 = mask n' 31) (hk : mask k 3 = mask k' 3) :
    S3 call fuel [.int .i64 n, .int .i64 k] s = S3 call fuel [.int .i64 n', .int .i64 k'] s := by
  simp only [S3, S3c, sSeq, sReg, S3r0, S3r1, S3r2, bndP_some, binQ_eq, and_mask, hn, hk, forceN_eq]

theorem deep_run (n k : Int) : okT (scall G1 200 3 [.int .i64 n, .int .i64 k] nh) = true := by
  obtain ⟨a, ha, hal⟩ := mask_le n 31 (by omega)
  obtain ⟨b, hb, hbl⟩ := mask_le k 3 (by omega)
  have key : ∀ (n k : Int), scall G1 200 3 [.int .i64 n, .int .i64 k] nh = S3 (scall G1 199) 199 [.int .i64 n, .int .i64 k] nh := fun n k => by kernel_rfl
  rw [key, S3_red _ _ n k a b nh (by rw [mask31 a hal]; exact ha) (by rw [mask3 b hbl]; exact hb), ← key]
  match b, hbl with
  | 0, _ => exact dk0 a (by omega)
  | 1, _ => exact dk1 a (by omega)
  | 2, _ => exact dk2 a (by omega)
  | 3, _ => exact dk3 a (by omega)

theorem deep_calls (n k : Int) (w : World) : Calls Try.prog 3 #[.int .i64 n, .int .i64 k] w fun e w' => e = .returned (.bool true) ∧ Below w.heap.size w w' :=
  closed_true (scall_ok G1_ok 200) (deep_run n k) (.cons .int (.cons .int .nil)) w

end Go.Proofs.Ytgcciohenncplaa.Ai
