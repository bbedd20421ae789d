/- All functions: the plain run, and the run without frames. -/
import Derived.Test.YtgcciohenncplaaDf0
import Derived.Test.YtgcciohenncplaaDf1
set_option linter.all false
namespace Go.Proofs.Ytgcciohenncplaa.Ai
noncomputable def fns (f : Nat) : Option AFn := ifB (Nat.ble f 65) (ifB (Nat.ble f 52) (ifB (Nat.ble f 27) (ifB (Nat.ble f 13) (ifB (Nat.ble f 3) (ifB (Nat.beq f 3) (some A3) none) (ifB (Nat.ble f 12) (ifB (Nat.beq f 12) (some A12) none) (ifB (Nat.beq f 13) (some A13) none))) (ifB (Nat.ble f 14) (ifB (Nat.beq f 14) (some A14) none) (ifB (Nat.ble f 26) (ifB (Nat.beq f 26) (some A26) none) (ifB (Nat.beq f 27) (some A27) none)))) (ifB (Nat.ble f 30) (ifB (Nat.ble f 28) (ifB (Nat.beq f 28) (some A28) none) (ifB (Nat.ble f 29) (ifB (Nat.beq f 29) (some A29) none) (ifB (Nat.beq f 30) (some A30) none))) (ifB (Nat.ble f 31) (ifB (Nat.beq f 31) (some A31) none) (ifB (Nat.ble f 51) (ifB (Nat.beq f 51) (some A51) none) (ifB (Nat.beq f 52) (some A52) none))))) (ifB (Nat.ble f 59) (ifB (Nat.ble f 56) (ifB (Nat.ble f 54) (ifB (Nat.beq f 54) (some A54) none) (ifB (Nat.ble f 55) (ifB (Nat.beq f 55) (some A55) none) (ifB (Nat.beq f 56) (some A56) none))) (ifB (Nat.ble f 57) (ifB (Nat.beq f 57) (some A57) none) (ifB (Nat.ble f 58) (ifB (Nat.beq f 58) (some A58) none) (ifB (Nat.beq f 59) (some A59) none)))) (ifB (Nat.ble f 62) (ifB (Nat.ble f 60) (ifB (Nat.beq f 60) (some A60) none) (ifB (Nat.ble f 61) (ifB (Nat.beq f 61) (some A61) none) (ifB (Nat.beq f 62) (some A62) none))) (ifB (Nat.ble f 63) (ifB (Nat.beq f 63) (some A63) none) (ifB (Nat.ble f 64) (ifB (Nat.beq f 64) (some A64) none) (ifB (Nat.beq f 65) (some A65) none)))))) (ifB (Nat.ble f 93) (ifB (Nat.ble f 87) (ifB (Nat.ble f 84) (ifB (Nat.ble f 81) (ifB (Nat.beq f 81) (some A81) none) (ifB (Nat.ble f 83) (ifB (Nat.beq f 83) (some A83) none) (ifB (Nat.beq f 84) (some A84) none))) (ifB (Nat.ble f 85) (ifB (Nat.beq f 85) (some A85) none) (ifB (Nat.ble f 86) (ifB (Nat.beq f 86) (some A86) none) (ifB (Nat.beq f 87) (some A87) none)))) (ifB (Nat.ble f 90) (ifB (Nat.ble f 88) (ifB (Nat.beq f 88) (some A88) none) (ifB (Nat.ble f 89) (ifB (Nat.beq f 89) (some A89) none) (ifB (Nat.beq f 90) (some A90) none))) (ifB (Nat.ble f 91) (ifB (Nat.beq f 91) (some A91) none) (ifB (Nat.ble f 92) (ifB (Nat.beq f 92) (some A92) none) (ifB (Nat.beq f 93) (some A93) none))))) (ifB (Nat.ble f 110) (ifB (Nat.ble f 107) (ifB (Nat.ble f 94) (ifB (Nat.beq f 94) (some A94) none) (ifB (Nat.ble f 105) (ifB (Nat.beq f 105) (some A105) none) (ifB (Nat.beq f 107) (some A107) none))) (ifB (Nat.ble f 108) (ifB (Nat.beq f 108) (some A108) none) (ifB (Nat.ble f 109) (ifB (Nat.beq f 109) (some A109) none) (ifB (Nat.beq f 110) (some A110) none)))) (ifB (Nat.ble f 119) (ifB (Nat.ble f 111) (ifB (Nat.beq f 111) (some A111) none) (ifB (Nat.ble f 115) (ifB (Nat.beq f 115) (some A115) none) (ifB (Nat.beq f 119) (some A119) none))) (ifB (Nat.ble f 120) (ifB (Nat.beq f 120) (some A120) none) (ifB (Nat.ble f 121) (ifB (Nat.beq f 121) (some A121) none) (ifB (Nat.beq f 128) (some A128) none))))))
noncomputable def tn (f : Nat) : Notes := ifB (Nat.ble f 65) (ifB (Nat.ble f 52) (ifB (Nat.ble f 27) (ifB (Nat.ble f 13) (ifB (Nat.ble f 3) (N3) (ifB (Nat.ble f 12) (N12) (N13))) (ifB (Nat.ble f 14) (N14) (ifB (Nat.ble f 26) (N26) (N27)))) (ifB (Nat.ble f 30) (ifB (Nat.ble f 28) (N28) (ifB (Nat.ble f 29) (N29) (N30))) (ifB (Nat.ble f 31) (N31) (ifB (Nat.ble f 51) (N51) (N52))))) (ifB (Nat.ble f 59) (ifB (Nat.ble f 56) (ifB (Nat.ble f 54) (N54) (ifB (Nat.ble f 55) (N55) (N56))) (ifB (Nat.ble f 57) (N57) (ifB (Nat.ble f 58) (N58) (N59)))) (ifB (Nat.ble f 62) (ifB (Nat.ble f 60) (N60) (ifB (Nat.ble f 61) (N61) (N62))) (ifB (Nat.ble f 63) (N63) (ifB (Nat.ble f 64) (N64) (N65)))))) (ifB (Nat.ble f 93) (ifB (Nat.ble f 87) (ifB (Nat.ble f 84) (ifB (Nat.ble f 81) (N81) (ifB (Nat.ble f 83) (N83) (N84))) (ifB (Nat.ble f 85) (N85) (ifB (Nat.ble f 86) (N86) (N87)))) (ifB (Nat.ble f 90) (ifB (Nat.ble f 88) (N88) (ifB (Nat.ble f 89) (N89) (N90))) (ifB (Nat.ble f 91) (N91) (ifB (Nat.ble f 92) (N92) (N93))))) (ifB (Nat.ble f 110) (ifB (Nat.ble f 107) (ifB (Nat.ble f 94) (N94) (ifB (Nat.ble f 105) (N105) (N107))) (ifB (Nat.ble f 108) (N108) (ifB (Nat.ble f 109) (N109) (N110)))) (ifB (Nat.ble f 119) (ifB (Nat.ble f 111) (N111) (ifB (Nat.ble f 115) (N115) (N119))) (ifB (Nat.ble f 120) (N120) (ifB (Nat.ble f 121) (N121) (N128))))))
noncomputable def sfn (call : Nat → List AV → M AV) (k f : Nat) (args : List AV) (s : AS) : Option (AV × AS) := ifB (Nat.ble f 65) (ifB (Nat.ble f 52) (ifB (Nat.ble f 27) (ifB (Nat.ble f 13) (ifB (Nat.ble f 3) (ifB (Nat.beq f 3) (S3 call k args s) none) (ifB (Nat.ble f 12) (ifB (Nat.beq f 12) (S12 call k args s) none) (ifB (Nat.beq f 13) (S13 call k args s) none))) (ifB (Nat.ble f 14) (ifB (Nat.beq f 14) (S14 call k args s) none) (ifB (Nat.ble f 26) (ifB (Nat.beq f 26) (S26 call k args s) none) (ifB (Nat.beq f 27) (S27 call k args s) none)))) (ifB (Nat.ble f 30) (ifB (Nat.ble f 28) (ifB (Nat.beq f 28) (S28 call k args s) none) (ifB (Nat.ble f 29) (ifB (Nat.beq f 29) (S29 call k args s) none) (ifB (Nat.beq f 30) (S30 call k args s) none))) (ifB (Nat.ble f 31) (ifB (Nat.beq f 31) (S31 call k args s) none) (ifB (Nat.ble f 51) (ifB (Nat.beq f 51) (S51 call k args s) none) (ifB (Nat.beq f 52) (S52 call k args s) none))))) (ifB (Nat.ble f 59) (ifB (Nat.ble f 56) (ifB (Nat.ble f 54) (ifB (Nat.beq f 54) (S54 call k args s) none) (ifB (Nat.ble f 55) (ifB (Nat.beq f 55) (S55 call k args s) none) (ifB (Nat.beq f 56) (S56 call k args s) none))) (ifB (Nat.ble f 57) (ifB (Nat.beq f 57) (S57 call k args s) none) (ifB (Nat.ble f 58) (ifB (Nat.beq f 58) (S58 call k args s) none) (ifB (Nat.beq f 59) (S59 call k args s) none)))) (ifB (Nat.ble f 62) (ifB (Nat.ble f 60) (ifB (Nat.beq f 60) (S60 call k args s) none) (ifB (Nat.ble f 61) (ifB (Nat.beq f 61) (S61 call k args s) none) (ifB (Nat.beq f 62) (S62 call k args s) none))) (ifB (Nat.ble f 63) (ifB (Nat.beq f 63) (S63 call k args s) none) (ifB (Nat.ble f 64) (ifB (Nat.beq f 64) (S64 call k args s) none) (ifB (Nat.beq f 65) (S65 call k args s) none)))))) (ifB (Nat.ble f 93) (ifB (Nat.ble f 87) (ifB (Nat.ble f 84) (ifB (Nat.ble f 81) (ifB (Nat.beq f 81) (S81 call k args s) none) (ifB (Nat.ble f 83) (ifB (Nat.beq f 83) (S83 call k args s) none) (ifB (Nat.beq f 84) (S84 call k args s) none))) (ifB (Nat.ble f 85) (ifB (Nat.beq f 85) (S85 call k args s) none) (ifB (Nat.ble f 86) (ifB (Nat.beq f 86) (S86 call k args s) none) (ifB (Nat.beq f 87) (S87 call k args s) none)))) (ifB (Nat.ble f 90) (ifB (Nat.ble f 88) (ifB (Nat.beq f 88) (S88 call k args s) none) (ifB (Nat.ble f 89) (ifB (Nat.beq f 89) (S89 call k args s) none) (ifB (Nat.beq f 90) (S90 call k args s) none))) (ifB (Nat.ble f 91) (ifB (Nat.beq f 91) (S91 call k args s) none) (ifB (Nat.ble f 92) (ifB (Nat.beq f 92) (S92 call k args s) none) (ifB (Nat.beq f 93) (S93 call k args s) none))))) (ifB (Nat.ble f 110) (ifB (Nat.ble f 107) (ifB (Nat.ble f 94) (ifB (Nat.beq f 94) (S94 call k args s) none) (ifB (Nat.ble f 105) (ifB (Nat.beq f 105) (S105 call k args s) none) (ifB (Nat.beq f 107) (S107 call k args s) none))) (ifB (Nat.ble f 108) (ifB (Nat.beq f 108) (S108 call k args s) none) (ifB (Nat.ble f 109) (ifB (Nat.beq f 109) (S109 call k args s) none) (ifB (Nat.beq f 110) (S110 call k args s) none)))) (ifB (Nat.ble f 119) (ifB (Nat.ble f 111) (ifB (Nat.beq f 111) (S111 call k args s) none) (ifB (Nat.ble f 115) (ifB (Nat.beq f 115) (S115 call k args s) none) (ifB (Nat.beq f 119) (S119 call k args s) none))) (ifB (Nat.ble f 120) (ifB (Nat.beq f 120) (S120 call k args s) none) (ifB (Nat.ble f 121) (ifB (Nat.beq f 121) (S121 call k args s) none) (ifB (Nat.beq f 128) (S128 call k args s) none))))))
def fid (f : Nat) : Prop := f = 3 ∨ f = 12 ∨ f = 13 ∨ f = 14 ∨ f = 26 ∨ f = 27 ∨ f = 28 ∨ f = 29 ∨ f = 30 ∨ f = 31 ∨ f = 51 ∨ f = 52 ∨ f = 54 ∨ f = 55 ∨ f = 56 ∨ f = 57 ∨ f = 58 ∨ f = 59 ∨ f = 60 ∨ f = 61 ∨ f = 62 ∨ f = 63 ∨ f = 64 ∨ f = 65 ∨ f = 81 ∨ f = 83 ∨ f = 84 ∨ f = 85 ∨ f = 86 ∨ f = 87 ∨ f = 88 ∨ f = 89 ∨ f = 90 ∨ f = 91 ∨ f = 92 ∨ f = 93 ∨ f = 94 ∨ f = 105 ∨ f = 107 ∨ f = 108 ∨ f = 109 ∨ f = 110 ∨ f = 111 ∨ f = 115 ∨ f = 119 ∨ f = 120 ∨ f = 121 ∨ f = 128
theorem fns_inv (f : Nat) (A : AFn) (h : fns f = some A) : fid f := by
  unfold fns at h
  have bt : ∀ {a b : Nat}, Nat.beq a b = true → a = b := fun h => Nat.eq_of_beq_eq_true h
  simp only [ifB_eq, cond_eq_ite] at h
  repeat' split at h
  all_goals first
    | (cases h; done)
    | (have e := bt (by assumption); subst e; unfold fid; simp)
theorem sfn_eq (call : Nat → List AV → M AV) (k f : Nat) (args : List AV) (s : AS) : (match fns f with | none => none | some A => afn call k A args s) = sfn call k f args s := by
  by_cases h : fid f
  · unfold fid at h
    rcases h with rfl | rfl | rfl | rfl | rfl | rfl | rfl | rfl | rfl | rfl | rfl | rfl | rfl | rfl | rfl | rfl | rfl | rfl | rfl | rfl | rfl | rfl | rfl | rfl | rfl | rfl | rfl | rfl | rfl | rfl | rfl | rfl | rfl | rfl | rfl | rfl | rfl | rfl | rfl | rfl | rfl | rfl | rfl | rfl | rfl | rfl | rfl | rfl
    · exact S3_ok call k args s
    · exact S12_ok call k args s
    · exact S13_ok call k args s
    · exact S14_ok call k args s
    · exact S26_ok call k args s
    · exact S27_ok call k args s
    · exact S28_ok call k args s
    · exact S29_ok call k args s
    · exact S30_ok call k args s
    · exact S31_ok call k args s
    · exact S51_ok call k args s
    · exact S52_ok call k args s
    · exact S54_ok call k args s
    · exact S55_ok call k args s
    · exact S56_ok call k args s
    · exact S57_ok call k args s
    · exact S58_ok call k args s
    · exact S59_ok call k args s
    · exact S60_ok call k args s
    · exact S61_ok call k args s
    · exact S62_ok call k args s
    · exact S63_ok call k args s
    · exact S64_ok call k args s
    · exact S65_ok call k args s
    · exact S81_ok call k args s
    · exact S83_ok call k args s
    · exact S84_ok call k args s
    · exact S85_ok call k args s
    · exact S86_ok call k args s
    · exact S87_ok call k args s
    · exact S88_ok call k args s
    · exact S89_ok call k args s
    · exact S90_ok call k args s
    · exact S91_ok call k args s
    · exact S92_ok call k args s
    · exact S93_ok call k args s
    · exact S94_ok call k args s
    · exact S105_ok call k args s
    · exact S107_ok call k args s
    · exact S108_ok call k args s
    · exact S109_ok call k args s
    · exact S110_ok call k args s
    · exact S111_ok call k args s
    · exact S115_ok call k args s
    · exact S119_ok call k args s
    · exact S120_ok call k args s
    · exact S121_ok call k args s
    · exact S128_ok call k args s
  · have h1 : fns f = none := by
      cases hf : fns f with
      | none => rfl
      | some A => exact absurd (fns_inv f A hf) h
    rw [h1]
    unfold fid at h
    simp only [not_or] at h
    have bf : ∀ {a b : Nat}, ¬ a = b → Nat.beq a b = false := fun {a b} h => by
      cases hb : Nat.beq a b with
      | false => rfl
      | true => exact absurd (Nat.eq_of_beq_eq_true hb) h
    obtain ⟨h3, h12, h13, h14, h26, h27, h28, h29, h30, h31, h51, h52, h54, h55, h56, h57, h58, h59, h60, h61, h62, h63, h64, h65, h81, h83, h84, h85, h86, h87, h88, h89, h90, h91, h92, h93, h94, h105, h107, h108, h109, h110, h111, h115, h119, h120, h121, h128⟩ := h
    unfold sfn
    simp only [ifB_eq, bf h3, bf h12, bf h13, bf h14, bf h26, bf h27, bf h28, bf h29, bf h30, bf h31, bf h51, bf h52, bf h54, bf h55, bf h56, bf h57, bf h58, bf h59, bf h60, bf h61, bf h62, bf h63, bf h64, bf h65, bf h81, bf h83, bf h84, bf h85, bf h86, bf h87, bf h88, bf h89, bf h90, bf h91, bf h92, bf h93, bf h94, bf h105, bf h107, bf h108, bf h109, bf h110, bf h111, bf h115, bf h119, bf h120, bf h121, bf h128, cond_false]
    simp only [cond_eq_ite, ite_self]
noncomputable def scall (G : Nat → List AV → M AV) (k : Nat) : Nat → List AV → M AV :=
  @Nat.rec (fun _ => Nat → List AV → M AV) (fun _ _ _ => none) (fun k ih f args s => @Option.rec (AV × AS) (fun _ => Option (AV × AS)) (sfn ih k f args s) (fun r => some r) (G f args s)) k
theorem scall_succ (G : Nat → List AV → M AV) (k f : Nat) (args : List AV) (s : AS) : scall G (k + 1) f args s = match G f args s with
    | some r => some r
    | none => sfn (scall G k) k f args s := by
  show @Option.rec (AV × AS) (fun _ => Option (AV × AS)) (sfn (scall G k) k f args s) (fun r => some r) (G f args s) = _
  cases G f args s <;> rfl
theorem acall_scall (G : Nat → List AV → M AV) : ∀ k, acall fns G k = scall G k
  | 0 => by funext f args s; rfl
  | k + 1 => by
    funext f args s
    rw [acall_afn, scall_succ]
    cases G f args s with
    | some r => rfl
    | none =>
      dsimp only
      rw [acall_scall G k]
      exact sfn_eq _ _ _ _ _
theorem fn_one {f : Nat} {A A0 : AFn} {g : Func} {M : Notes} (h : fns f = some A) (h0 : fns f = some A0) (hp : Try.prog.funcs[f]? = some g) (hn : tn f = M) (hc : cFn Try.prog qf M g = some A0) : ∃ fn, Try.prog.funcs[f]? = some fn ∧ cFn Try.prog qf (tn f) fn = some A := by
  rw [h0] at h
  cases h
  exact ⟨g, hp, by rw [hn]; exact hc⟩
theorem fnsOk : FnsOk Try.prog qf tn fns := by
  refine ⟨fun f A h => ?_⟩
  have hf := fns_inv f A h
  unfold fid at hf
  rcases hf with rfl | rfl | rfl | rfl | rfl | rfl | rfl | rfl | rfl | rfl | rfl | rfl | rfl | rfl | rfl | rfl | rfl | rfl | rfl | rfl | rfl | rfl | rfl | rfl | rfl | rfl | rfl | rfl | rfl | rfl | rfl | rfl | rfl | rfl | rfl | rfl | rfl | rfl | rfl | rfl | rfl | rfl | rfl | rfl | rfl | rfl | rfl | rfl
  · exact fn_one h (A0 := A3) (g := Try.f3) (M := N3) (by kernel_rfl) Try.func3 (by kernel_rfl) A3_ok
  · exact fn_one h (A0 := A12) (g := Try.f12) (M := N12) (by kernel_rfl) Try.func12 (by kernel_rfl) A12_ok
  · exact fn_one h (A0 := A13) (g := Try.f13) (M := N13) (by kernel_rfl) Try.func13 (by kernel_rfl) A13_ok
  · exact fn_one h (A0 := A14) (g := Try.f14) (M := N14) (by kernel_rfl) Try.func14 (by kernel_rfl) A14_ok
  · exact fn_one h (A0 := A26) (g := Try.f26) (M := N26) (by kernel_rfl) Try.func26 (by kernel_rfl) A26_ok
  · exact fn_one h (A0 := A27) (g := Try.f27) (M := N27) (by kernel_rfl) Try.func27 (by kernel_rfl) A27_ok
  · exact fn_one h (A0 := A28) (g := Try.f28) (M := N28) (by kernel_rfl) Try.func28 (by kernel_rfl) A28_ok
  · exact fn_one h (A0 := A29) (g := Try.f29) (M := N29) (by kernel_rfl) Try.func29 (by kernel_rfl) A29_ok
  · exact fn_one h (A0 := A30) (g := Try.f30) (M := N30) (by kernel_rfl) Try.func30 (by kernel_rfl) A30_ok
  · exact fn_one h (A0 := A31) (g := Try.f31) (M := N31) (by kernel_rfl) Try.func31 (by kernel_rfl) A31_ok
  · exact fn_one h (A0 := A51) (g := Try.f51) (M := N51) (by kernel_rfl) Try.func51 (by kernel_rfl) A51_ok
  · exact fn_one h (A0 := A52) (g := Try.f52) (M := N52) (by kernel_rfl) Try.func52 (by kernel_rfl) A52_ok
  · exact fn_one h (A0 := A54) (g := Try.f54) (M := N54) (by kernel_rfl) Try.func54 (by kernel_rfl) A54_ok
  · exact fn_one h (A0 := A55) (g := Try.f55) (M := N55) (by kernel_rfl) Try.func55 (by kernel_rfl) A55_ok
  · exact fn_one h (A0 := A56) (g := Try.f56) (M := N56) (by kernel_rfl) Try.func56 (by kernel_rfl) A56_ok
  · exact fn_one h (A0 := A57) (g := Try.f57) (M := N57) (by kernel_rfl) Try.func57 (by kernel_rfl) A57_ok
  · exact fn_one h (A0 := A58) (g := Try.f58) (M := N58) (by kernel_rfl) Try.func58 (by kernel_rfl) A58_ok
  · exact fn_one h (A0 := A59) (g := Try.f59) (M := N59) (by kernel_rfl) Try.func59 (by kernel_rfl) A59_ok
  · exact fn_one h (A0 := A60) (g := Try.f60) (M := N60) (by kernel_rfl) Try.func60 (by kernel_rfl) A60_ok
  · exact fn_one h (A0 := A61) (g := Try.f61) (M := N61) (by kernel_rfl) Try.func61 (by kernel_rfl) A61_ok
  · exact fn_one h (A0 := A62) (g := Try.f62) (M := N62) (by kernel_rfl) Try.func62 (by kernel_rfl) A62_ok
  · exact fn_one h (A0 := A63) (g := Try.f63) (M := N63) (by kernel_rfl) Try.func63 (by kernel_rfl) A63_ok
  · exact fn_one h (A0 := A64) (g := Try.f64) (M := N64) (by kernel_rfl) Try.func64 (by kernel_rfl) A64_ok
  · exact fn_one h (A0 := A65) (g := Try.f65) (M := N65) (by kernel_rfl) Try.func65 (by kernel_rfl) A65_ok
  · exact fn_one h (A0 := A81) (g := Try.f81) (M := N81) (by kernel_rfl) Try.func81 (by kernel_rfl) A81_ok
  · exact fn_one h (A0 := A83) (g := Try.f83) (M := N83) (by kernel_rfl) Try.func83 (by kernel_rfl) A83_ok
  · exact fn_one h (A0 := A84) (g := Try.f84) (M := N84) (by kernel_rfl) Try.func84 (by kernel_rfl) A84_ok
  · exact fn_one h (A0 := A85) (g := Try.f85) (M := N85) (by kernel_rfl) Try.func85 (by kernel_rfl) A85_ok
  · exact fn_one h (A0 := A86) (g := Try.f86) (M := N86) (by kernel_rfl) Try.func86 (by kernel_rfl) A86_ok
  · exact fn_one h (A0 := A87) (g := Try.f87) (M := N87) (by kernel_rfl) Try.func87 (by kernel_rfl) A87_ok
  · exact fn_one h (A0 := A88) (g := Try.f88) (M := N88) (by kernel_rfl) Try.func88 (by kernel_rfl) A88_ok
  · exact fn_one h (A0 := A89) (g := Try.f89) (M := N89) (by kernel_rfl) Try.func89 (by kernel_rfl) A89_ok
  · exact fn_one h (A0 := A90) (g := Try.f90) (M := N90) (by kernel_rfl) Try.func90 (by kernel_rfl) A90_ok
  · exact fn_one h (A0 := A91) (g := Try.f91) (M := N91) (by kernel_rfl) Try.func91 (by kernel_rfl) A91_ok
  · exact fn_one h (A0 := A92) (g := Try.f92) (M := N92) (by kernel_rfl) Try.func92 (by kernel_rfl) A92_ok
  · exact fn_one h (A0 := A93) (g := Try.f93) (M := N93) (by kernel_rfl) Try.func93 (by kernel_rfl) A93_ok
  · exact fn_one h (A0 := A94) (g := Try.f94) (M := N94) (by kernel_rfl) Try.func94 (by kernel_rfl) A94_ok
  · exact fn_one h (A0 := A105) (g := Try.f105) (M := N105) (by kernel_rfl) Try.func105 (by kernel_rfl) A105_ok
  · exact fn_one h (A0 := A107) (g := Try.f107) (M := N107) (by kernel_rfl) Try.func107 (by kernel_rfl) A107_ok
  · exact fn_one h (A0 := A108) (g := Try.f108) (M := N108) (by kernel_rfl) Try.func108 (by kernel_rfl) A108_ok
  · exact fn_one h (A0 := A109) (g := Try.f109) (M := N109) (by kernel_rfl) Try.func109 (by kernel_rfl) A109_ok
  · exact fn_one h (A0 := A110) (g := Try.f110) (M := N110) (by kernel_rfl) Try.func110 (by kernel_rfl) A110_ok
  · exact fn_one h (A0 := A111) (g := Try.f111) (M := N111) (by kernel_rfl) Try.func111 (by kernel_rfl) A111_ok
  · exact fn_one h (A0 := A115) (g := Try.f115) (M := N115) (by kernel_rfl) Try.func115 (by kernel_rfl) A115_ok
  · exact fn_one h (A0 := A119) (g := Try.f119) (M := N119) (by kernel_rfl) Try.func119 (by kernel_rfl) A119_ok
  · exact fn_one h (A0 := A120) (g := Try.f120) (M := N120) (by kernel_rfl) Try.func120 (by kernel_rfl) A120_ok
  · exact fn_one h (A0 := A121) (g := Try.f121) (M := N121) (by kernel_rfl) Try.func121 (by kernel_rfl) A121_ok
  · exact fn_one h (A0 := A128) (g := Try.f128) (M := N128) (by kernel_rfl) Try.func128 (by kernel_rfl) A128_ok
end Go.Proofs.Ytgcciohenncplaa.Ai
