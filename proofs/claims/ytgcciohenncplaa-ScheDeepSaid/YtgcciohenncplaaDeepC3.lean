/- ScheDeep: runs told by the kernel, text 3. -/
import Derived.Test.YtgcciohenncplaaDeep
set_option linter.all false
namespace Go.Proofs.Ytgcciohenncplaa.Ai
theorem d0_3 : okT (scall G1 200 3 [.int .i64 0, .int .i64 3] nh) = true := by kernel_rfl
theorem d1_3 : okT (scall G1 200 3 [.int .i64 1, .int .i64 3] nh) = true := by kernel_rfl
theorem d2_3 : okT (scall G1 200 3 [.int .i64 2, .int .i64 3] nh) = true := by kernel_rfl
theorem d3_3 : okT (scall G1 200 3 [.int .i64 3, .int .i64 3] nh) = true := by kernel_rfl
theorem d4_3 : okT (scall G1 200 3 [.int .i64 4, .int .i64 3] nh) = true := by kernel_rfl
theorem d5_3 : okT (scall G1 200 3 [.int .i64 5, .int .i64 3] nh) = true := by kernel_rfl
theorem d6_3 : okT (scall G1 200 3 [.int .i64 6, .int .i64 3] nh) = true := by kernel_rfl
theorem d7_3 : okT (scall G1 200 3 [.int .i64 7, .int .i64 3] nh) = true := by kernel_rfl
theorem d8_3 : okT (scall G1 200 3 [.int .i64 8, .int .i64 3] nh) = true := by kernel_rfl
theorem d9_3 : okT (scall G1 200 3 [.int .i64 9, .int .i64 3] nh) = true := by kernel_rfl
theorem d10_3 : okT (scall G1 200 3 [.int .i64 10, .int .i64 3] nh) = true := by kernel_rfl
theorem d11_3 : okT (scall G1 200 3 [.int .i64 11, .int .i64 3] nh) = true := by kernel_rfl
theorem d12_3 : okT (scall G1 200 3 [.int .i64 12, .int .i64 3] nh) = true := by kernel_rfl
theorem d13_3 : okT (scall G1 200 3 [.int .i64 13, .int .i64 3] nh) = true := by kernel_rfl
theorem d14_3 : okT (scall G1 200 3 [.int .i64 14, .int .i64 3] nh) = true := by kernel_rfl
theorem d15_3 : okT (scall G1 200 3 [.int .i64 15, .int .i64 3] nh) = true := by kernel_rfl
theorem d16_3 : okT (scall G1 200 3 [.int .i64 16, .int .i64 3] nh) = true := by kernel_rfl
theorem d17_3 : okT (scall G1 200 3 [.int .i64 17, .int .i64 3] nh) = true := by kernel_rfl
theorem d18_3 : okT (scall G1 200 3 [.int .i64 18, .int .i64 3] nh) = true := by kernel_rfl
theorem d19_3 : okT (scall G1 200 3 [.int .i64 19, .int .i64 3] nh) = true := by kernel_rfl
theorem d20_3 : okT (scall G1 200 3 [.int .i64 20, .int .i64 3] nh) = true := by kernel_rfl
theorem d21_3 : okT (scall G1 200 3 [.int .i64 21, .int .i64 3] nh) = true := by kernel_rfl
theorem d22_3 : okT (scall G1 200 3 [.int .i64 22, .int .i64 3] nh) = true := by kernel_rfl
theorem d23_3 : okT (scall G1 200 3 [.int .i64 23, .int .i64 3] nh) = true := by kernel_rfl
theorem d24_3 : okT (scall G1 200 3 [.int .i64 24, .int .i64 3] nh) = true := by kernel_rfl
theorem d25_3 : okT (scall G1 200 3 [.int .i64 25, .int .i64 3] nh) = true := by kernel_rfl
theorem d26_3 : okT (scall G1 200 3 [.int .i64 26, .int .i64 3] nh) = true := by kernel_rfl
theorem d27_3 : okT (scall G1 200 3 [.int .i64 27, .int .i64 3] nh) = true := by kernel_rfl
theorem d28_3 : okT (scall G1 200 3 [.int .i64 28, .int .i64 3] nh) = true := by kernel_rfl
theorem d29_3 : okT (scall G1 200 3 [.int .i64 29, .int .i64 3] nh) = true := by kernel_rfl
theorem d30_3 : okT (scall G1 200 3 [.int .i64 30, .int .i64 3] nh) = true := by kernel_rfl
theorem d31_3 : okT (scall G1 200 3 [.int .i64 31, .int .i64 3] nh) = true := by kernel_rfl
theorem dk3 : ∀ n : Nat, n < 32 → okT (scall G1 200 3 [.int .i64 (n : Int), .int .i64 3] nh) = true
  | 0, _ => d0_3
  | 1, _ => d1_3
  | 2, _ => d2_3
  | 3, _ => d3_3
  | 4, _ => d4_3
  | 5, _ => d5_3
  | 6, _ => d6_3
  | 7, _ => d7_3
  | 8, _ => d8_3
  | 9, _ => d9_3
  | 10, _ => d10_3
  | 11, _ => d11_3
  | 12, _ => d12_3
  | 13, _ => d13_3
  | 14, _ => d14_3
  | 15, _ => d15_3
  | 16, _ => d16_3
  | 17, _ => d17_3
  | 18, _ => d18_3
  | 19, _ => d19_3
  | 20, _ => d20_3
  | 21, _ => d21_3
  | 22, _ => d22_3
  | 23, _ => d23_3
  | 24, _ => d24_3
  | 25, _ => d25_3
  | 26, _ => d26_3
  | 27, _ => d27_3
  | 28, _ => d28_3
  | 29, _ => d29_3
  | 30, _ => d30_3
  | 31, _ => d31_3
  | n + 32, h => absurd h (by omega)
end Go.Proofs.Ytgcciohenncplaa.Ai
