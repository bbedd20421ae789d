/- WellErrors: runs told by the kernel. -/
import Derived.Test.YtgcciohenncplaaErr
set_option linter.all false
namespace Go.Proofs.Ytgcciohenncplaa.Ai
theorem err0 : okT (scall E1 200 6 [.int .i64 0] nh) = true := by kernel_rfl
theorem err1 : okT (scall E1 200 6 [.int .i64 1] nh) = true := by kernel_rfl
theorem err2 : okT (scall E1 200 6 [.int .i64 2] nh) = true := by kernel_rfl
theorem err3 : okT (scall E1 200 6 [.int .i64 3] nh) = true := by kernel_rfl
theorem err4 : okT (scall E1 200 6 [.int .i64 4] nh) = true := by kernel_rfl
theorem err5 : okT (scall E1 200 6 [.int .i64 5] nh) = true := by kernel_rfl
theorem err6 : okT (scall E1 200 6 [.int .i64 6] nh) = true := by kernel_rfl
theorem err7 : okT (scall E1 200 6 [.int .i64 7] nh) = true := by kernel_rfl
theorem err8 : okT (scall E1 200 6 [.int .i64 8] nh) = true := by kernel_rfl
theorem err9 : okT (scall E1 200 6 [.int .i64 9] nh) = true := by kernel_rfl
theorem err10 : okT (scall E1 200 6 [.int .i64 10] nh) = true := by kernel_rfl
theorem err11 : okT (scall E1 200 6 [.int .i64 11] nh) = true := by kernel_rfl
theorem err12 : okT (scall E1 200 6 [.int .i64 12] nh) = true := by kernel_rfl
theorem err13 : okT (scall E1 200 6 [.int .i64 13] nh) = true := by kernel_rfl
theorem err14 : okT (scall E1 200 6 [.int .i64 14] nh) = true := by kernel_rfl
theorem err15 : okT (scall E1 200 6 [.int .i64 15] nh) = true := by kernel_rfl
theorem err16 : okT (scall E1 200 6 [.int .i64 16] nh) = true := by kernel_rfl
theorem err17 : okT (scall E1 200 6 [.int .i64 17] nh) = true := by kernel_rfl
theorem err18 : okT (scall E1 200 6 [.int .i64 18] nh) = true := by kernel_rfl
theorem err19 : okT (scall E1 200 6 [.int .i64 19] nh) = true := by kernel_rfl
theorem err20 : okT (scall E1 200 6 [.int .i64 20] nh) = true := by kernel_rfl
theorem err21 : okT (scall E1 200 6 [.int .i64 21] nh) = true := by kernel_rfl
theorem err22 : okT (scall E1 200 6 [.int .i64 22] nh) = true := by kernel_rfl
theorem errC : ∀ n : Nat, n < 23 → okT (scall E1 200 6 [.int .i64 (n : Int)] nh) = true
  | 0, _ => err0
  | 1, _ => err1
  | 2, _ => err2
  | 3, _ => err3
  | 4, _ => err4
  | 5, _ => err5
  | 6, _ => err6
  | 7, _ => err7
  | 8, _ => err8
  | 9, _ => err9
  | 10, _ => err10
  | 11, _ => err11
  | 12, _ => err12
  | 13, _ => err13
  | 14, _ => err14
  | 15, _ => err15
  | 16, _ => err16
  | 17, _ => err17
  | 18, _ => err18
  | 19, _ => err19
  | 20, _ => err20
  | 21, _ => err21
  | 22, _ => err22
  | n + 23, h => absurd h (by omega)
end Go.Proofs.Ytgcciohenncplaa.Ai
