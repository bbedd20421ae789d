/- ScheDeep: that a function of no arguments answers true, and what numbers matter. -/
import Derived.Test.YtgcciohenncplaaAg6
import Derived.Test.YtgcciohenncplaaDs
set_option linter.all false
namespace Go.Proofs.Ytgcciohenncplaa.Ai

noncomputable def G0 : Nat → List AV → M AV := gRow [(117, gIndexByte), (82, gJoin), (80, gCheck), (50, gWrite), (53, gString)]

theorem G0_ok : GOk Try.prog G0 := gRow_ok _ fun g hg => by
  simp only [List.mem_cons, List.mem_nil_iff, or_false] at hg
  rcases hg with rfl | rfl | rfl | rfl | rfl
  · exact indexByte_one
  · exact join_one
  · exact check_one
  · exact write_one
  · exact string_one

theorem mixed : Try.prog.follows .mixedOrders = true := by kernel_rfl

theorem scall_ok {G : Nat → List AV → M AV} (hG : GOk Try.prog G) (k : Nat) : CallOk Try.prog (scall G k) := by
  rw [← acall_scall]
  exact acall_ok mixed fnsOk hG k

theorem awake_run : okT (scall G0 200 13 [] nh) = true := by kernel_rfl

noncomputable def G1 : Nat → List AV → M AV := gRow [(13, gTrue), (117, gIndexByte)]

theorem G1_ok : GOk Try.prog G1 := gRow_ok _ fun g hg => by
  simp only [List.mem_cons, List.mem_nil_iff, or_false] at hg
  rcases hg with rfl | rfl
  · exact true_one (scall_ok G0_ok 200) awake_run
  · exact indexByte_one

/-- A number under a mask. -/
def mask (n m : Int) : Int := IntKind.i64.wrap ((BitVec.ofInt IntKind.i64.bits n &&& BitVec.ofInt IntKind.i64.bits m).toNat : Nat)

theorem and_mask (n m : Int) : binA .and (.int .i64 n) (.int .i64 m) = some (.int .i64 (mask n m)) := by
  simp only [binA, mask, if_pos]

end Go.Proofs.Ytgcciohenncplaa.Ai
