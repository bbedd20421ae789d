/- All functions: the plain run, and the run without frames. -/
import Derived.Test.YtgcciohenncplaaEf0
import Derived.Test.YtgcciohenncplaaEf1
import Derived.Test.YtgcciohenncplaaEf2
set_option linter.all false
namespace Go.Proofs.Ytgcciohenncplaa.Ai
noncomputable def fns (f : Nat) : Option AFn := ifB (Nat.ble f 71) (ifB (Nat.ble f 42) (ifB (Nat.ble f 20) (ifB (Nat.ble f 16) (ifB (Nat.ble f 6) (ifB (Nat.beq f 6) (some A6) none) (ifB (Nat.beq f 16) (some A16) none)) (ifB (Nat.ble f 17) (ifB (Nat.beq f 17) (some A17) none) (ifB (Nat.ble f 18) (ifB (Nat.beq f 18) (some A18) none) (ifB (Nat.beq f 20) (some A20) none)))) (ifB (Nat.ble f 36) (ifB (Nat.ble f 23) (ifB (Nat.beq f 23) (some A23) none) (ifB (Nat.ble f 35) (ifB (Nat.beq f 35) (some A35) none) (ifB (Nat.beq f 36) (some A36) none))) (ifB (Nat.ble f 37) (ifB (Nat.beq f 37) (some A37) none) (ifB (Nat.ble f 39) (ifB (Nat.beq f 39) (some A39) none) (ifB (Nat.beq f 42) (some A42) none))))) (ifB (Nat.ble f 47) (ifB (Nat.ble f 44) (ifB (Nat.ble f 43) (ifB (Nat.beq f 43) (some A43) none) (ifB (Nat.beq f 44) (some A44) none)) (ifB (Nat.ble f 45) (ifB (Nat.beq f 45) (some A45) none) (ifB (Nat.ble f 46) (ifB (Nat.beq f 46) (some A46) none) (ifB (Nat.beq f 47) (some A47) none)))) (ifB (Nat.ble f 68) (ifB (Nat.ble f 66) (ifB (Nat.beq f 66) (some A66) none) (ifB (Nat.ble f 67) (ifB (Nat.beq f 67) (some A67) none) (ifB (Nat.beq f 68) (some A68) none))) (ifB (Nat.ble f 69) (ifB (Nat.beq f 69) (some A69) none) (ifB (Nat.ble f 70) (ifB (Nat.beq f 70) (some A70) none) (ifB (Nat.beq f 71) (some A71) none)))))) (ifB (Nat.ble f 98) (ifB (Nat.ble f 76) (ifB (Nat.ble f 73) (ifB (Nat.ble f 72) (ifB (Nat.beq f 72) (some A72) none) (ifB (Nat.beq f 73) (some A73) none)) (ifB (Nat.ble f 74) (ifB (Nat.beq f 74) (some A74) none) (ifB (Nat.ble f 75) (ifB (Nat.beq f 75) (some A75) none) (ifB (Nat.beq f 76) (some A76) none)))) (ifB (Nat.ble f 95) (ifB (Nat.ble f 77) (ifB (Nat.beq f 77) (some A77) none) (ifB (Nat.ble f 78) (ifB (Nat.beq f 78) (some A78) none) (ifB (Nat.beq f 95) (some A95) none))) (ifB (Nat.ble f 96) (ifB (Nat.beq f 96) (some A96) none) (ifB (Nat.ble f 97) (ifB (Nat.beq f 97) (some A97) none) (ifB (Nat.beq f 98) (some A98) none))))) (ifB (Nat.ble f 112) (ifB (Nat.ble f 101) (ifB (Nat.ble f 99) (ifB (Nat.beq f 99) (some A99) none) (ifB (Nat.ble f 100) (ifB (Nat.beq f 100) (some A100) none) (ifB (Nat.beq f 101) (some A101) none))) (ifB (Nat.ble f 102) (ifB (Nat.beq f 102) (some A102) none) (ifB (Nat.ble f 103) (ifB (Nat.beq f 103) (some A103) none) (ifB (Nat.beq f 112) (some A112) none)))) (ifB (Nat.ble f 122) (ifB (Nat.ble f 113) (ifB (Nat.beq f 113) (some A113) none) (ifB (Nat.ble f 114) (ifB (Nat.beq f 114) (some A114) none) (ifB (Nat.beq f 122) (some A122) none))) (ifB (Nat.ble f 123) (ifB (Nat.beq f 123) (some A123) none) (ifB (Nat.ble f 124) (ifB (Nat.beq f 124) (some A124) none) (ifB (Nat.beq f 125) (some A125) none))))))
noncomputable def tn (f : Nat) : Notes := ifB (Nat.ble f 71) (ifB (Nat.ble f 42) (ifB (Nat.ble f 20) (ifB (Nat.ble f 16) (ifB (Nat.ble f 6) (N6) (N16)) (ifB (Nat.ble f 17) (N17) (ifB (Nat.ble f 18) (N18) (N20)))) (ifB (Nat.ble f 36) (ifB (Nat.ble f 23) (N23) (ifB (Nat.ble f 35) (N35) (N36))) (ifB (Nat.ble f 37) (N37) (ifB (Nat.ble f 39) (N39) (N42))))) (ifB (Nat.ble f 47) (ifB (Nat.ble f 44) (ifB (Nat.ble f 43) (N43) (N44)) (ifB (Nat.ble f 45) (N45) (ifB (Nat.ble f 46) (N46) (N47)))) (ifB (Nat.ble f 68) (ifB (Nat.ble f 66) (N66) (ifB (Nat.ble f 67) (N67) (N68))) (ifB (Nat.ble f 69) (N69) (ifB (Nat.ble f 70) (N70) (N71)))))) (ifB (Nat.ble f 98) (ifB (Nat.ble f 76) (ifB (Nat.ble f 73) (ifB (Nat.ble f 72) (N72) (N73)) (ifB (Nat.ble f 74) (N74) (ifB (Nat.ble f 75) (N75) (N76)))) (ifB (Nat.ble f 95) (ifB (Nat.ble f 77) (N77) (ifB (Nat.ble f 78) (N78) (N95))) (ifB (Nat.ble f 96) (N96) (ifB (Nat.ble f 97) (N97) (N98))))) (ifB (Nat.ble f 112) (ifB (Nat.ble f 101) (ifB (Nat.ble f 99) (N99) (ifB (Nat.ble f 100) (N100) (N101))) (ifB (Nat.ble f 102) (N102) (ifB (Nat.ble f 103) (N103) (N112)))) (ifB (Nat.ble f 122) (ifB (Nat.ble f 113) (N113) (ifB (Nat.ble f 114) (N114) (N122))) (ifB (Nat.ble f 123) (N123) (ifB (Nat.ble f 124) (N124) (N125))))))
noncomputable def sfn (call : Nat → List AV → M AV) (k f : Nat) (args : List AV) (s : AS) : Option (AV × AS) := ifB (Nat.ble f 71) (ifB (Nat.ble f 42) (ifB (Nat.ble f 20) (ifB (Nat.ble f 16) (ifB (Nat.ble f 6) (ifB (Nat.beq f 6) (S6 call k args s) none) (ifB (Nat.beq f 16) (S16 call k args s) none)) (ifB (Nat.ble f 17) (ifB (Nat.beq f 17) (S17 call k args s) none) (ifB (Nat.ble f 18) (ifB (Nat.beq f 18) (S18 call k args s) none) (ifB (Nat.beq f 20) (S20 call k args s) none)))) (ifB (Nat.ble f 36) (ifB (Nat.ble f 23) (ifB (Nat.beq f 23) (S23 call k args s) none) (ifB (Nat.ble f 35) (ifB (Nat.beq f 35) (S35 call k args s) none) (ifB (Nat.beq f 36) (S36 call k args s) none))) (ifB (Nat.ble f 37) (ifB (Nat.beq f 37) (S37 call k args s) none) (ifB (Nat.ble f 39) (ifB (Nat.beq f 39) (S39 call k args s) none) (ifB (Nat.beq f 42) (S42 call k args s) none))))) (ifB (Nat.ble f 47) (ifB (Nat.ble f 44) (ifB (Nat.ble f 43) (ifB (Nat.beq f 43) (S43 call k args s) none) (ifB (Nat.beq f 44) (S44 call k args s) none)) (ifB (Nat.ble f 45) (ifB (Nat.beq f 45) (S45 call k args s) none) (ifB (Nat.ble f 46) (ifB (Nat.beq f 46) (S46 call k args s) none) (ifB (Nat.beq f 47) (S47 call k args s) none)))) (ifB (Nat.ble f 68) (ifB (Nat.ble f 66) (ifB (Nat.beq f 66) (S66 call k args s) none) (ifB (Nat.ble f 67) (ifB (Nat.beq f 67) (S67 call k args s) none) (ifB (Nat.beq f 68) (S68 call k args s) none))) (ifB (Nat.ble f 69) (ifB (Nat.beq f 69) (S69 call k args s) none) (ifB (Nat.ble f 70) (ifB (Nat.beq f 70) (S70 call k args s) none) (ifB (Nat.beq f 71) (S71 call k args s) none)))))) (ifB (Nat.ble f 98) (ifB (Nat.ble f 76) (ifB (Nat.ble f 73) (ifB (Nat.ble f 72) (ifB (Nat.beq f 72) (S72 call k args s) none) (ifB (Nat.beq f 73) (S73 call k args s) none)) (ifB (Nat.ble f 74) (ifB (Nat.beq f 74) (S74 call k args s) none) (ifB (Nat.ble f 75) (ifB (Nat.beq f 75) (S75 call k args s) none) (ifB (Nat.beq f 76) (S76 call k args s) none)))) (ifB (Nat.ble f 95) (ifB (Nat.ble f 77) (ifB (Nat.beq f 77) (S77 call k args s) none) (ifB (Nat.ble f 78) (ifB (Nat.beq f 78) (S78 call k args s) none) (ifB (Nat.beq f 95) (S95 call k args s) none))) (ifB (Nat.ble f 96) (ifB (Nat.beq f 96) (S96 call k args s) none) (ifB (Nat.ble f 97) (ifB (Nat.beq f 97) (S97 call k args s) none) (ifB (Nat.beq f 98) (S98 call k args s) none))))) (ifB (Nat.ble f 112) (ifB (Nat.ble f 101) (ifB (Nat.ble f 99) (ifB (Nat.beq f 99) (S99 call k args s) none) (ifB (Nat.ble f 100) (ifB (Nat.beq f 100) (S100 call k args s) none) (ifB (Nat.beq f 101) (S101 call k args s) none))) (ifB (Nat.ble f 102) (ifB (Nat.beq f 102) (S102 call k args s) none) (ifB (Nat.ble f 103) (ifB (Nat.beq f 103) (S103 call k args s) none) (ifB (Nat.beq f 112) (S112 call k args s) none)))) (ifB (Nat.ble f 122) (ifB (Nat.ble f 113) (ifB (Nat.beq f 113) (S113 call k args s) none) (ifB (Nat.ble f 114) (ifB (Nat.beq f 114) (S114 call k args s) none) (ifB (Nat.beq f 122) (S122 call k args s) none))) (ifB (Nat.ble f 123) (ifB (Nat.beq f 123) (S123 call k args s) none) (ifB (Nat.ble f 124) (ifB (Nat.beq f 124) (S124 call k args s) none) (ifB (Nat.beq f 125) (S125 call k args s) none))))))
def fid (f : Nat) : Prop := f = 6 ∨ f = 16 ∨ f = 17 ∨ f = 18 ∨ f = 20 ∨ f = 23 ∨ f = 35 ∨ f = 36 ∨ f = 37 ∨ f = 39 ∨ f = 42 ∨ f = 43 ∨ f = 44 ∨ f = 45 ∨ f = 46 ∨ f = 47 ∨ f = 66 ∨ f = 67 ∨ f = 68 ∨ f = 69 ∨ f = 70 ∨ f = 71 ∨ f = 72 ∨ f = 73 ∨ f = 74 ∨ f = 75 ∨ f = 76 ∨ f = 77 ∨ f = 78 ∨ f = 95 ∨ f = 96 ∨ f = 97 ∨ f = 98 ∨ f = 99 ∨ f = 100 ∨ f = 101 ∨ f = 102 ∨ f = 103 ∨ f = 112 ∨ f = 113 ∨ f = 114 ∨ f = 122 ∨ f = 123 ∨ f = 124 ∨ f = 125
theorem fns_inv (f : Nat) (A : AFn) (h : fns f = some A) : fid f := by
  unfold fns at h
  have bt : ∀ {a b : Nat}, Nat.beq a b = true → a = b := fun h => Nat.eq_of_beq_eq_true h
  simp only [ifB_eq, cond_eq_ite] at h
  repeat' split at h
  all_goals first
    | (cases h; done)
    | (have e := bt (by assumption); subst e; unfold fid; simp)
theorem sfn_eq (call : Nat → List AV → M AV) (k f : Nat) (args : List AV) (s : AS) : (match fns f with | none => none | some A => afn call k A args s) = sfn call k f args s := by
  by_cases h : fid f
  · unfold fid at h
    rcases h with rfl | rfl | rfl | rfl | rfl | rfl | rfl | rfl | rfl | rfl | rfl | rfl | rfl | rfl | rfl | rfl | rfl | rfl | rfl | rfl | rfl | rfl | rfl | rfl | rfl | rfl | rfl | rfl | rfl | rfl | rfl | rfl | rfl | rfl | rfl | rfl | rfl | rfl | rfl | rfl | rfl | rfl | rfl | rfl | rfl
    · exact S6_ok call k args s
    · exact S16_ok call k args s
    · exact S17_ok call k args s
    · exact S18_ok call k args s
    · exact S20_ok call k args s
    · exact S23_ok call k args s
    · exact S35_ok call k args s
    · exact S36_ok call k args s
    · exact S37_ok call k args s
    · exact S39_ok call k args s
    · exact S42_ok call k args s
    · exact S43_ok call k args s
    · exact S44_ok call k args s
    · exact S45_ok call k args s
    · exact S46_ok call k args s
    · exact S47_ok call k args s
    · exact S66_ok call k args s
    · exact S67_ok call k args s
    · exact S68_ok call k args s
    · exact S69_ok call k args s
    · exact S70_ok call k args s
    · exact S71_ok call k args s
    · exact S72_ok call k args s
    · exact S73_ok call k args s
    · exact S74_ok call k args s
    · exact S75_ok call k args s
    · exact S76_ok call k args s
    · exact S77_ok call k args s
    · exact S78_ok call k args s
    · exact S95_ok call k args s
    · exact S96_ok call k args s
    · exact S97_ok call k args s
    · exact S98_ok call k args s
    · exact S99_ok call k args s
    · exact S100_ok call k args s
    · exact S101_ok call k args s
    · exact S102_ok call k args s
    · exact S103_ok call k args s
    · exact S112_ok call k args s
    · exact S113_ok call k args s
    · exact S114_ok call k args s
    · exact S122_ok call k args s
    · exact S123_ok call k args s
    · exact S124_ok call k args s
    · exact S125_ok call k args s
  · have h1 : fns f = none := by
      cases hf : fns f with
      | none => rfl
      | some A => exact absurd (fns_inv f A hf) h
    rw [h1]
    unfold fid at h
    simp only [not_or] at h
    have bf : ∀ {a b : Nat}, ¬ a = b → Nat.beq a b = false := fun {a b} h => by
      cases hb : Nat.beq a b with
      | false => rfl
      | true => exact absurd (Nat.eq_of_beq_eq_true hb) h
    obtain ⟨h6, h16, h17, h18, h20, h23, h35, h36, h37, h39, h42, h43, h44, h45, h46, h47, h66, h67, h68, h69, h70, h71, h72, h73, h74, h75, h76, h77, h78, h95, h96, h97, h98, h99, h100, h101, h102, h103, h112, h113, h114, h122, h123, h124, h125⟩ := h
    unfold sfn
    simp only [ifB_eq, bf h6, bf h16, bf h17, bf h18, bf h20, bf h23, bf h35, bf h36, bf h37, bf h39, bf h42, bf h43, bf h44, bf h45, bf h46, bf h47, bf h66, bf h67, bf h68, bf h69, bf h70, bf h71, bf h72, bf h73, bf h74, bf h75, bf h76, bf h77, bf h78, bf h95, bf h96, bf h97, bf h98, bf h99, bf h100, bf h101, bf h102, bf h103, bf h112, bf h113, bf h114, bf h122, bf h123, bf h124, bf h125, cond_false]
    simp only [cond_eq_ite, ite_self]
noncomputable def scall (G : Nat → List AV → M AV) (k : Nat) : Nat → List AV → M AV :=
  @Nat.rec (fun _ => Nat → List AV → M AV) (fun _ _ _ => none) (fun k ih f args s => @Option.rec (AV × AS) (fun _ => Option (AV × AS)) (sfn ih k f args s) (fun r => some r) (G f args s)) k
theorem scall_succ (G : Nat → List AV → M AV) (k f : Nat) (args : List AV) (s : AS) : scall G (k + 1) f args s = match G f args s with
    | some r => some r
    | none => sfn (scall G k) k f args s := by
  show @Option.rec (AV × AS) (fun _ => Option (AV × AS)) (sfn (scall G k) k f args s) (fun r => some r) (G f args s) = _
  cases G f args s <;> rfl
theorem acall_scall (G : Nat → List AV → M AV) : ∀ k, acall fns G k = scall G k
  | 0 => by funext f args s; rfl
  | k + 1 => by
    funext f args s
    rw [acall_afn, scall_succ]
    cases G f args s with
    | some r => rfl
    | none =>
      dsimp only
      rw [acall_scall G k]
      exact sfn_eq _ _ _ _ _
theorem fn_one {f : Nat} {A A0 : AFn} {g : Func} {M : Notes} (h : fns f = some A) (h0 : fns f = some A0) (hp : Try.prog.funcs[f]? = some g) (hn : tn f = M) (hc : cFn Try.prog qf M g = some A0) : ∃ fn, Try.prog.funcs[f]? = some fn ∧ cFn Try.prog qf (tn f) fn = some A := by
  rw [h0] at h
  cases h
  exact ⟨g, hp, by rw [hn]; exact hc⟩
theorem fnsOk : FnsOk Try.prog qf tn fns := by
  refine ⟨fun f A h => ?_⟩
  have hf := fns_inv f A h
  unfold fid at hf
  rcases hf with rfl | rfl | rfl | rfl | rfl | rfl | rfl | rfl | rfl | rfl | rfl | rfl | rfl | rfl | rfl | rfl | rfl | rfl | rfl | rfl | rfl | rfl | rfl | rfl | rfl | rfl | rfl | rfl | rfl | rfl | rfl | rfl | rfl | rfl | rfl | rfl | rfl | rfl | rfl | rfl | rfl | rfl | rfl | rfl | rfl
  · exact fn_one h (A0 := A6) (g := Try.f6) (M := N6) (by kernel_rfl) Try.func6 (by kernel_rfl) A6_ok
  · exact fn_one h (A0 := A16) (g := Try.f16) (M := N16) (by kernel_rfl) Try.func16 (by kernel_rfl) A16_ok
  · exact fn_one h (A0 := A17) (g := Try.f17) (M := N17) (by kernel_rfl) Try.func17 (by kernel_rfl) A17_ok
  · exact fn_one h (A0 := A18) (g := Try.f18) (M := N18) (by kernel_rfl) Try.func18 (by kernel_rfl) A18_ok
  · exact fn_one h (A0 := A20) (g := Try.f20) (M := N20) (by kernel_rfl) Try.func20 (by kernel_rfl) A20_ok
  · exact fn_one h (A0 := A23) (g := Try.f23) (M := N23) (by kernel_rfl) Try.func23 (by kernel_rfl) A23_ok
  · exact fn_one h (A0 := A35) (g := Try.f35) (M := N35) (by kernel_rfl) Try.func35 (by kernel_rfl) A35_ok
  · exact fn_one h (A0 := A36) (g := Try.f36) (M := N36) (by kernel_rfl) Try.func36 (by kernel_rfl) A36_ok
  · exact fn_one h (A0 := A37) (g := Try.f37) (M := N37) (by kernel_rfl) Try.func37 (by kernel_rfl) A37_ok
  · exact fn_one h (A0 := A39) (g := Try.f39) (M := N39) (by kernel_rfl) Try.func39 (by kernel_rfl) A39_ok
  · exact fn_one h (A0 := A42) (g := Try.f42) (M := N42) (by kernel_rfl) Try.func42 (by kernel_rfl) A42_ok
  · exact fn_one h (A0 := A43) (g := Try.f43) (M := N43) (by kernel_rfl) Try.func43 (by kernel_rfl) A43_ok
  · exact fn_one h (A0 := A44) (g := Try.f44) (M := N44) (by kernel_rfl) Try.func44 (by kernel_rfl) A44_ok
  · exact fn_one h (A0 := A45) (g := Try.f45) (M := N45) (by kernel_rfl) Try.func45 (by kernel_rfl) A45_ok
  · exact fn_one h (A0 := A46) (g := Try.f46) (M := N46) (by kernel_rfl) Try.func46 (by kernel_rfl) A46_ok
  · exact fn_one h (A0 := A47) (g := Try.f47) (M := N47) (by kernel_rfl) Try.func47 (by kernel_rfl) A47_ok
  · exact fn_one h (A0 := A66) (g := Try.f66) (M := N66) (by kernel_rfl) Try.func66 (by kernel_rfl) A66_ok
  · exact fn_one h (A0 := A67) (g := Try.f67) (M := N67) (by kernel_rfl) Try.func67 (by kernel_rfl) A67_ok
  · exact fn_one h (A0 := A68) (g := Try.f68) (M := N68) (by kernel_rfl) Try.func68 (by kernel_rfl) A68_ok
  · exact fn_one h (A0 := A69) (g := Try.f69) (M := N69) (by kernel_rfl) Try.func69 (by kernel_rfl) A69_ok
  · exact fn_one h (A0 := A70) (g := Try.f70) (M := N70) (by kernel_rfl) Try.func70 (by kernel_rfl) A70_ok
  · exact fn_one h (A0 := A71) (g := Try.f71) (M := N71) (by kernel_rfl) Try.func71 (by kernel_rfl) A71_ok
  · exact fn_one h (A0 := A72) (g := Try.f72) (M := N72) (by kernel_rfl) Try.func72 (by kernel_rfl) A72_ok
  · exact fn_one h (A0 := A73) (g := Try.f73) (M := N73) (by kernel_rfl) Try.func73 (by kernel_rfl) A73_ok
  · exact fn_one h (A0 := A74) (g := Try.f74) (M := N74) (by kernel_rfl) Try.func74 (by kernel_rfl) A74_ok
  · exact fn_one h (A0 := A75) (g := Try.f75) (M := N75) (by kernel_rfl) Try.func75 (by kernel_rfl) A75_ok
  · exact fn_one h (A0 := A76) (g := Try.f76) (M := N76) (by kernel_rfl) Try.func76 (by kernel_rfl) A76_ok
  · exact fn_one h (A0 := A77) (g := Try.f77) (M := N77) (by kernel_rfl) Try.func77 (by kernel_rfl) A77_ok
  · exact fn_one h (A0 := A78) (g := Try.f78) (M := N78) (by kernel_rfl) Try.func78 (by kernel_rfl) A78_ok
  · exact fn_one h (A0 := A95) (g := Try.f95) (M := N95) (by kernel_rfl) Try.func95 (by kernel_rfl) A95_ok
  · exact fn_one h (A0 := A96) (g := Try.f96) (M := N96) (by kernel_rfl) Try.func96 (by kernel_rfl) A96_ok
  · exact fn_one h (A0 := A97) (g := Try.f97) (M := N97) (by kernel_rfl) Try.func97 (by kernel_rfl) A97_ok
  · exact fn_one h (A0 := A98) (g := Try.f98) (M := N98) (by kernel_rfl) Try.func98 (by kernel_rfl) A98_ok
  · exact fn_one h (A0 := A99) (g := Try.f99) (M := N99) (by kernel_rfl) Try.func99 (by kernel_rfl) A99_ok
  · exact fn_one h (A0 := A100) (g := Try.f100) (M := N100) (by kernel_rfl) Try.func100 (by kernel_rfl) A100_ok
  · exact fn_one h (A0 := A101) (g := Try.f101) (M := N101) (by kernel_rfl) Try.func101 (by kernel_rfl) A101_ok
  · exact fn_one h (A0 := A102) (g := Try.f102) (M := N102) (by kernel_rfl) Try.func102 (by kernel_rfl) A102_ok
  · exact fn_one h (A0 := A103) (g := Try.f103) (M := N103) (by kernel_rfl) Try.func103 (by kernel_rfl) A103_ok
  · exact fn_one h (A0 := A112) (g := Try.f112) (M := N112) (by kernel_rfl) Try.func112 (by kernel_rfl) A112_ok
  · exact fn_one h (A0 := A113) (g := Try.f113) (M := N113) (by kernel_rfl) Try.func113 (by kernel_rfl) A113_ok
  · exact fn_one h (A0 := A114) (g := Try.f114) (M := N114) (by kernel_rfl) Try.func114 (by kernel_rfl) A114_ok
  · exact fn_one h (A0 := A122) (g := Try.f122) (M := N122) (by kernel_rfl) Try.func122 (by kernel_rfl) A122_ok
  · exact fn_one h (A0 := A123) (g := Try.f123) (M := N123) (by kernel_rfl) Try.func123 (by kernel_rfl) A123_ok
  · exact fn_one h (A0 := A124) (g := Try.f124) (M := N124) (by kernel_rfl) Try.func124 (by kernel_rfl) A124_ok
  · exact fn_one h (A0 := A125) (g := Try.f125) (M := N125) (by kernel_rfl) Try.func125 (by kernel_rfl) A125_ok
end Go.Proofs.Ytgcciohenncplaa.Ai
