/- ScheDeep: runs told by the kernel, text 1. -/
import Derived.Test.YtgcciohenncplaaDeep
set_option linter.all false
namespace Go.Proofs.Ytgcciohenncplaa.Ai
theorem d0_1 : okT (scall G1 200 3 [.int .i64 0, .int .i64 1] nh) = true := by kernel_rfl
theorem d1_1 : okT (scall G1 200 3 [.int .i64 1, .int .i64 1] nh) = true := by kernel_rfl
theorem d2_1 : okT (scall G1 200 3 [.int .i64 2, .int .i64 1] nh) = true := by kernel_rfl
theorem d3_1 : okT (scall G1 200 3 [.int .i64 3, .int .i64 1] nh) = true := by kernel_rfl
theorem d4_1 : okT (scall G1 200 3 [.int .i64 4, .int .i64 1] nh) = true := by kernel_rfl
theorem d5_1 : okT (scall G1 200 3 [.int .i64 5, .int .i64 1] nh) = true := by kernel_rfl
theorem d6_1 : okT (scall G1 200 3 [.int .i64 6, .int .i64 1] nh) = true := by kernel_rfl
theorem d7_1 : okT (scall G1 200 3 [.int .i64 7, .int .i64 1] nh) = true := by kernel_rfl
theorem d8_1 : okT (scall G1 200 3 [.int .i64 8, .int .i64 1] nh) = true := by kernel_rfl
theorem d9_1 : okT (scall G1 200 3 [.int .i64 9, .int .i64 1] nh) = true := by kernel_rfl
theorem d10_1 : okT (scall G1 200 3 [.int .i64 10, .int .i64 1] nh) = true := by kernel_rfl
theorem d11_1 : okT (scall G1 200 3 [.int .i64 11, .int .i64 1] nh) = true := by kernel_rfl
theorem d12_1 : okT (scall G1 200 3 [.int .i64 12, .int .i64 1] nh) = true := by kernel_rfl
theorem d13_1 : okT (scall G1 200 3 [.int .i64 13, .int .i64 1] nh) = true := by kernel_rfl
theorem d14_1 : okT (scall G1 200 3 [.int .i64 14, .int .i64 1] nh) = true := by kernel_rfl
theorem d15_1 : okT (scall G1 200 3 [.int .i64 15, .int .i64 1] nh) = true := by kernel_rfl
theorem d16_1 : okT (scall G1 200 3 [.int .i64 16, .int .i64 1] nh) = true := by kernel_rfl
theorem d17_1 : okT (scall G1 200 3 [.int .i64 17, .int .i64 1] nh) = true := by kernel_rfl
theorem d18_1 : okT (scall G1 200 3 [.int .i64 18, .int .i64 1] nh) = true := by kernel_rfl
theorem d19_1 : okT (scall G1 200 3 [.int .i64 19, .int .i64 1] nh) = true := by kernel_rfl
theorem d20_1 : okT (scall G1 200 3 [.int .i64 20, .int .i64 1] nh) = true := by kernel_rfl
theorem d21_1 : okT (scall G1 200 3 [.int .i64 21, .int .i64 1] nh) = true := by kernel_rfl
theorem d22_1 : okT (scall G1 200 3 [.int .i64 22, .int .i64 1] nh) = true := by kernel_rfl
theorem d23_1 : okT (scall G1 200 3 [.int .i64 23, .int .i64 1] nh) = true := by kernel_rfl
theorem d24_1 : okT (scall G1 200 3 [.int .i64 24, .int .i64 1] nh) = true := by kernel_rfl
theorem d25_1 : okT (scall G1 200 3 [.int .i64 25, .int .i64 1] nh) = true := by kernel_rfl
theorem d26_1 : okT (scall G1 200 3 [.int .i64 26, .int .i64 1] nh) = true := by kernel_rfl
theorem d27_1 : okT (scall G1 200 3 [.int .i64 27, .int .i64 1] nh) = true := by kernel_rfl
theorem d28_1 : okT (scall G1 200 3 [.int .i64 28, .int .i64 1] nh) = true := by kernel_rfl
theorem d29_1 : okT (scall G1 200 3 [.int .i64 29, .int .i64 1] nh) = true := by kernel_rfl
theorem d30_1 : okT (scall G1 200 3 [.int .i64 30, .int .i64 1] nh) = true := by kernel_rfl
theorem d31_1 : okT (scall G1 200 3 [.int .i64 31, .int .i64 1] nh) = true := by kernel_rfl
theorem dk1 : ∀ n : Nat, n < 32 → okT (scall G1 200 3 [.int .i64 (n : Int), .int .i64 1] nh) = true
  | 0, _ => d0_1
  | 1, _ => d1_1
  | 2, _ => d2_1
  | 3, _ => d3_1
  | 4, _ => d4_1
  | 5, _ => d5_1
  | 6, _ => d6_1
  | 7, _ => d7_1
  | 8, _ => d8_1
  | 9, _ => d9_1
  | 10, _ => d10_1
  | 11, _ => d11_1
  | 12, _ => d12_1
  | 13, _ => d13_1
  | 14, _ => d14_1
  | 15, _ => d15_1
  | 16, _ => d16_1
  | 17, _ => d17_1
  | 18, _ => d18_1
  | 19, _ => d19_1
  | 20, _ => d20_1
  | 21, _ => d21_1
  | 22, _ => d22_1
  | 23, _ => d23_1
  | 24, _ => d24_1
  | 25, _ => d25_1
  | 26, _ => d26_1
  | 27, _ => d27_1
  | 28, _ => d28_1
  | 29, _ => d29_1
  | 30, _ => d30_1
  | 31, _ => d31_1
  | n + 32, h => absurd h (by omega)
end Go.Proofs.Ytgcciohenncplaa.Ai
