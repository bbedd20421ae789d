/- WellErrors: that a function of no arguments answers true. -/
import Derived.Test.YtgcciohenncplaaAg7
import Derived.Test.YtgcciohenncplaaEs
set_option linter.all false
namespace Go.Proofs.Ytgcciohenncplaa.Ai

noncomputable def E0 : Nat → List AV → M AV := gRow [(129, gGrow), (117, gIndexByte)]

theorem E0_ok : GOk Try.prog E0 := gRow_ok _ fun g hg => by
  simp only [List.mem_cons, List.mem_nil_iff, or_false] at hg
  rcases hg with rfl | rfl
  · exact grow_one
  · exact indexByte_one

theorem mixed : Try.prog.follows .mixedOrders = true := by kernel_rfl

theorem scall_ok {G : Nat → List AV → M AV} (hG : GOk Try.prog G) (k : Nat) : CallOk Try.prog (scall G k) := by
  rw [← acall_scall]
  exact acall_ok mixed fnsOk hG k

theorem awake_run : okT (scall E0 200 17 [] nh) = true := by kernel_rfl

noncomputable def E1 : Nat → List AV → M AV := gRow [(17, gTrue), (129, gGrow), (117, gIndexByte)]

theorem E1_ok : GOk Try.prog E1 := gRow_ok _ fun g hg => by
  simp only [List.mem_cons, List.mem_nil_iff, or_false] at hg
  rcases hg with rfl | rfl | rfl
  · exact true_one (scall_ok E0_ok 200) awake_run
  · exact grow_one
  · exact indexByte_one

end Go.Proofs.Ytgcciohenncplaa.Ai
