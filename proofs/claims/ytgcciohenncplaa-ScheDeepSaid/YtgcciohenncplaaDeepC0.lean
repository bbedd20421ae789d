/- ScheDeep: runs told by the kernel, text 0. -/
import Derived.Test.YtgcciohenncplaaDeep
set_option linter.all false
namespace Go.Proofs.Ytgcciohenncplaa.Ai
theorem d0_0 : okT (scall G1 200 3 [.int .i64 0, .int .i64 0] nh) = true := by kernel_rfl
theorem d1_0 : okT (scall G1 200 3 [.int .i64 1, .int .i64 0] nh) = true := by kernel_rfl
theorem d2_0 : okT (scall G1 200 3 [.int .i64 2, .int .i64 0] nh) = true := by kernel_rfl
theorem d3_0 : okT (scall G1 200 3 [.int .i64 3, .int .i64 0] nh) = true := by kernel_rfl
theorem d4_0 : okT (scall G1 200 3 [.int .i64 4, .int .i64 0] nh) = true := by kernel_rfl
theorem d5_0 : okT (scall G1 200 3 [.int .i64 5, .int .i64 0] nh) = true := by kernel_rfl
theorem d6_0 : okT (scall G1 200 3 [.int .i64 6, .int .i64 0] nh) = true := by kernel_rfl
theorem d7_0 : okT (scall G1 200 3 [.int .i64 7, .int .i64 0] nh) = true := by kernel_rfl
theorem d8_0 : okT (scall G1 200 3 [.int .i64 8, .int .i64 0] nh) = true := by kernel_rfl
theorem d9_0 : okT (scall G1 200 3 [.int .i64 9, .int .i64 0] nh) = true := by kernel_rfl
theorem d10_0 : okT (scall G1 200 3 [.int .i64 10, .int .i64 0] nh) = true := by kernel_rfl
theorem d11_0 : okT (scall G1 200 3 [.int .i64 11, .int .i64 0] nh) = true := by kernel_rfl
theorem d12_0 : okT (scall G1 200 3 [.int .i64 12, .int .i64 0] nh) = true := by kernel_rfl
theorem d13_0 : okT (scall G1 200 3 [.int .i64 13, .int .i64 0] nh) = true := by kernel_rfl
theorem d14_0 : okT (scall G1 200 3 [.int .i64 14, .int .i64 0] nh) = true := by kernel_rfl
theorem d15_0 : okT (scall G1 200 3 [.int .i64 15, .int .i64 0] nh) = true := by kernel_rfl
theorem d16_0 : okT (scall G1 200 3 [.int .i64 16, .int .i64 0] nh) = true := by kernel_rfl
theorem d17_0 : okT (scall G1 200 3 [.int .i64 17, .int .i64 0] nh) = true := by kernel_rfl
theorem d18_0 : okT (scall G1 200 3 [.int .i64 18, .int .i64 0] nh) = true := by kernel_rfl
theorem d19_0 : okT (scall G1 200 3 [.int .i64 19, .int .i64 0] nh) = true := by kernel_rfl
theorem d20_0 : okT (scall G1 200 3 [.int .i64 20, .int .i64 0] nh) = true := by kernel_rfl
theorem d21_0 : okT (scall G1 200 3 [.int .i64 21, .int .i64 0] nh) = true := by kernel_rfl
theorem d22_0 : okT (scall G1 200 3 [.int .i64 22, .int .i64 0] nh) = true := by kernel_rfl
theorem d23_0 : okT (scall G1 200 3 [.int .i64 23, .int .i64 0] nh) = true := by kernel_rfl
theorem d24_0 : okT (scall G1 200 3 [.int .i64 24, .int .i64 0] nh) = true := by kernel_rfl
theorem d25_0 : okT (scall G1 200 3 [.int .i64 25, .int .i64 0] nh) = true := by kernel_rfl
theorem d26_0 : okT (scall G1 200 3 [.int .i64 26, .int .i64 0] nh) = true := by kernel_rfl
theorem d27_0 : okT (scall G1 200 3 [.int .i64 27, .int .i64 0] nh) = true := by kernel_rfl
theorem d28_0 : okT (scall G1 200 3 [.int .i64 28, .int .i64 0] nh) = true := by kernel_rfl
theorem d29_0 : okT (scall G1 200 3 [.int .i64 29, .int .i64 0] nh) = true := by kernel_rfl
theorem d30_0 : okT (scall G1 200 3 [.int .i64 30, .int .i64 0] nh) = true := by kernel_rfl
theorem d31_0 : okT (scall G1 200 3 [.int .i64 31, .int .i64 0] nh) = true := by kernel_rfl
theorem dk0 : ∀ n : Nat, n < 32 → okT (scall G1 200 3 [.int .i64 (n : Int), .int .i64 0] nh) = true
  | 0, _ => d0_0
  | 1, _ => d1_0
  | 2, _ => d2_0
  | 3, _ => d3_0
  | 4, _ => d4_0
  | 5, _ => d5_0
  | 6, _ => d6_0
  | 7, _ => d7_0
  | 8, _ => d8_0
  | 9, _ => d9_0
  | 10, _ => d10_0
  | 11, _ => d11_0
  | 12, _ => d12_0
  | 13, _ => d13_0
  | 14, _ => d14_0
  | 15, _ => d15_0
  | 16, _ => d16_0
  | 17, _ => d17_0
  | 18, _ => d18_0
  | 19, _ => d19_0
  | 20, _ => d20_0
  | 21, _ => d21_0
  | 22, _ => d22_0
  | 23, _ => d23_0
  | 24, _ => d24_0
  | 25, _ => d25_0
  | 26, _ => d26_0
  | 27, _ => d27_0
  | 28, _ => d28_0
  | 29, _ => d29_0
  | 30, _ => d30_0
  | 31, _ => d31_0
  | n + 32, h => absurd h (by omega)
end Go.Proofs.Ytgcciohenncplaa.Ai
