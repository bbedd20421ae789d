/- ScheDeep: runs told by the kernel, text 2. -/
import Derived.Test.YtgcciohenncplaaDeep
set_option linter.all false
namespace Go.Proofs.Ytgcciohenncplaa.Ai
theorem d0_2 : okT (scall G1 200 3 [.int .i64 0, .int .i64 2] nh) = true := by kernel_rfl
theorem d1_2 : okT (scall G1 200 3 [.int .i64 1, .int .i64 2] nh) = true := by kernel_rfl
theorem d2_2 : okT (scall G1 200 3 [.int .i64 2, .int .i64 2] nh) = true := by kernel_rfl
theorem d3_2 : okT (scall G1 200 3 [.int .i64 3, .int .i64 2] nh) = true := by kernel_rfl
theorem d4_2 : okT (scall G1 200 3 [.int .i64 4, .int .i64 2] nh) = true := by kernel_rfl
theorem d5_2 : okT (scall G1 200 3 [.int .i64 5, .int .i64 2] nh) = true := by kernel_rfl
theorem d6_2 : okT (scall G1 200 3 [.int .i64 6, .int .i64 2] nh) = true := by kernel_rfl
theorem d7_2 : okT (scall G1 200 3 [.int .i64 7, .int .i64 2] nh) = true := by kernel_rfl
theorem d8_2 : okT (scall G1 200 3 [.int .i64 8, .int .i64 2] nh) = true := by kernel_rfl
theorem d9_2 : okT (scall G1 200 3 [.int .i64 9, .int .i64 2] nh) = true := by kernel_rfl
theorem d10_2 : okT (scall G1 200 3 [.int .i64 10, .int .i64 2] nh) = true := by kernel_rfl
theorem d11_2 : okT (scall G1 200 3 [.int .i64 11, .int .i64 2] nh) = true := by kernel_rfl
theorem d12_2 : okT (scall G1 200 3 [.int .i64 12, .int .i64 2] nh) = true := by kernel_rfl
theorem d13_2 : okT (scall G1 200 3 [.int .i64 13, .int .i64 2] nh) = true := by kernel_rfl
theorem d14_2 : okT (scall G1 200 3 [.int .i64 14, .int .i64 2] nh) = true := by kernel_rfl
theorem d15_2 : okT (scall G1 200 3 [.int .i64 15, .int .i64 2] nh) = true := by kernel_rfl
theorem d16_2 : okT (scall G1 200 3 [.int .i64 16, .int .i64 2] nh) = true := by kernel_rfl
theorem d17_2 : okT (scall G1 200 3 [.int .i64 17, .int .i64 2] nh) = true := by kernel_rfl
theorem d18_2 : okT (scall G1 200 3 [.int .i64 18, .int .i64 2] nh) = true := by kernel_rfl
theorem d19_2 : okT (scall G1 200 3 [.int .i64 19, .int .i64 2] nh) = true := by kernel_rfl
theorem d20_2 : okT (scall G1 200 3 [.int .i64 20, .int .i64 2] nh) = true := by kernel_rfl
theorem d21_2 : okT (scall G1 200 3 [.int .i64 21, .int .i64 2] nh) = true := by kernel_rfl
theorem d22_2 : okT (scall G1 200 3 [.int .i64 22, .int .i64 2] nh) = true := by kernel_rfl
theorem d23_2 : okT (scall G1 200 3 [.int .i64 23, .int .i64 2] nh) = true := by kernel_rfl
theorem d24_2 : okT (scall G1 200 3 [.int .i64 24, .int .i64 2] nh) = true := by kernel_rfl
theorem d25_2 : okT (scall G1 200 3 [.int .i64 25, .int .i64 2] nh) = true := by kernel_rfl
theorem d26_2 : okT (scall G1 200 3 [.int .i64 26, .int .i64 2] nh) = true := by kernel_rfl
theorem d27_2 : okT (scall G1 200 3 [.int .i64 27, .int .i64 2] nh) = true := by kernel_rfl
theorem d28_2 : okT (scall G1 200 3 [.int .i64 28, .int .i64 2] nh) = true := by kernel_rfl
theorem d29_2 : okT (scall G1 200 3 [.int .i64 29, .int .i64 2] nh) = true := by kernel_rfl
theorem d30_2 : okT (scall G1 200 3 [.int .i64 30, .int .i64 2] nh) = true := by kernel_rfl
theorem d31_2 : okT (scall G1 200 3 [.int .i64 31, .int .i64 2] nh) = true := by kernel_rfl
theorem dk2 : ∀ n : Nat, n < 32 → okT (scall G1 200 3 [.int .i64 (n : Int), .int .i64 2] nh) = true
  | 0, _ => d0_2
  | 1, _ => d1_2
  | 2, _ => d2_2
  | 3, _ => d3_2
  | 4, _ => d4_2
  | 5, _ => d5_2
  | 6, _ => d6_2
  | 7, _ => d7_2
  | 8, _ => d8_2
  | 9, _ => d9_2
  | 10, _ => d10_2
  | 11, _ => d11_2
  | 12, _ => d12_2
  | 13, _ => d13_2
  | 14, _ => d14_2
  | 15, _ => d15_2
  | 16, _ => d16_2
  | 17, _ => d17_2
  | 18, _ => d18_2
  | 19, _ => d19_2
  | 20, _ => d20_2
  | 21, _ => d21_2
  | 22, _ => d22_2
  | 23, _ => d23_2
  | 24, _ => d24_2
  | 25, _ => d25_2
  | 26, _ => d26_2
  | 27, _ => d27_2
  | 28, _ => d28_2
  | 29, _ => d29_2
  | 30, _ => d30_2
  | 31, _ => d31_2
  | n + 32, h => absurd h (by omega)
end Go.Proofs.Ytgcciohenncplaa.Ai
