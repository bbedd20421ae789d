/- Functions told without frames, and that they answer as the code does. -/
import Derived.Test.YtgcciohenncplaaDf0
set_option linter.all false
namespace Go.Proofs.Ytgcciohenncplaa.Ai
def A83 : AFn := { nargs := 2, ntmps := 8, res := [.tmp 4], code := .seq (.ops [⟨0, (some 4), none, .p (.mv (.const (.bool false))), []⟩] 1 [0, 1]) (.seq (.ops [⟨0, (some 5), none, .p (.mv (.tmp 0)), []⟩, ⟨1, (some 6), none, .p (.mv (.tmp 1)), []⟩, ⟨2, (some 7), none, .e (.call true 107 [.tmp 5, .tmp 6]), []⟩, ⟨3, (some 4), none, .p (.mv (.tmp 7)), []⟩] 4 [4]) (.ret)) }
def N83 : Notes := { note := fun _ => none, keep := fun | 1 => [4] | 0 => [0, 1] | _ => [] }
theorem A83_ok : cFn Try.prog qf N83 Try.f83 = some A83 := by kernel_rfl
inductive W83 where
  | mk (x0 x1 x4 : AV)
inductive V83 where
  | mk (x0 x1 : AV)
def mo83 : W83 → Fr := fun ⟨x0, x1, x4⟩ => [x0, x1, .top, .top, x4, .top, .top, .top]
def mi83 : V83 → Fr := fun ⟨x0, x1⟩ => [x0, x1, .tup [], .tup [], .tup [], .tup [], .tup [], .tup []]
noncomputable def S83r0 {R : Type} (call : Nat → List AV → M AV) : V83 → Nat → AS → (W83 → AS → Option R) → Option R := @V83.rec (fun _ => Nat → AS → (W83 → AS → Option R) → Option R) fun x0 x1 base s k =>
  k (.mk x0 x1 .top) s
noncomputable def S83r1 {R : Type} (call : Nat → List AV → M AV) : W83 → Nat → AS → (W83 → AS → Option R) → Option R := @W83.rec (fun _ => Nat → AS → (W83 → AS → Option R) → Option R) fun x0 x1 x4 base s k =>
  bndO (quietQ call 107 [x0, x1] s) fun y0 s =>
  k (.mk .top .top y0) s
noncomputable def S83c {R : Type} (call : Nat → List AV → M AV) (fuel : Nat) : SC V83 W83 R := sSeq (sReg 1 (S83r0 call)) (sSeq (sReg 4 (S83r1 call)) (sRet))
noncomputable def S83e : Ex → W83 → AS → Option (AV × AS) := fun e w s => (@W83.rec (fun _ => Option (AV × AS)) fun _ _ x4 => @Ex.rec (fun _ => Option (AV × AS)) (some (x4, s)) (fun _ => none) (some (x4, s)) e) w
noncomputable def S83 (call : Nat → List AV → M AV) (fuel : Nat) (args : List AV) (s : AS) : Option (AV × AS) := match args with
  | [x0, x1] => S83c call fuel (.mk x0 x1) s S83e
  | _ => none
theorem S83_sim (call : Nat → List AV → M AV) (fuel : Nat) : Sim (R := AV × AS) call fuel mi83 mo83 A83.code (S83c call fuel) := by
  refine sim_seq (sim_reg (fun ⟨x0, x1⟩ _ _ _ => by kernel_rfl)) (sim_seq (sim_reg (fun ⟨x0, x1, x4⟩ _ _ _ => by kernel_rfl)) (sim_ret))
theorem S83_ok (call : Nat → List AV → M AV) (fuel : Nat) (args : List AV) (s : AS) : afn call fuel A83 args s = S83 call fuel args s := by
  rcases args with _ | ⟨x0, _ | ⟨x1, _ | ⟨x2, r⟩⟩⟩
  · kernel_rfl
  · kernel_rfl
  · exact (afn_sim (S83_sim call fuel) (v := (.mk x0 x1)) (e2 := S83e) (by kernel_rfl) (by kernel_rfl) (fun e w s => by cases w; cases e <;> kernel_rfl)).trans (by kernel_rfl)
  · kernel_rfl
def A84 : AFn := { nargs := 2, ntmps := 8, res := [.tmp 4], code := .seq (.ops [⟨0, (some 4), none, .p (.mv (.const (.int .i64 0))), []⟩] 1 [0, 1]) (.seq (.ops [⟨0, (some 5), none, .p (.mv (.tmp 0)), []⟩, ⟨1, (some 6), none, .p (.mv (.tmp 1)), []⟩, ⟨2, (some 7), none, .e (.call true 108 [.tmp 5, .tmp 6]), []⟩, ⟨3, (some 4), none, .p (.mv (.tmp 7)), []⟩] 4 [4]) (.ret)) }
def N84 : Notes := { note := fun _ => none, keep := fun | 1 => [4] | 0 => [0, 1] | _ => [] }
theorem A84_ok : cFn Try.prog qf N84 Try.f84 = some A84 := by kernel_rfl
inductive W84 where
  | mk (x0 x1 x4 : AV)
inductive V84 where
  | mk (x0 x1 : AV)
def mo84 : W84 → Fr := fun ⟨x0, x1, x4⟩ => [x0, x1, .top, .top, x4, .top, .top, .top]
def mi84 : V84 → Fr := fun ⟨x0, x1⟩ => [x0, x1, .tup [], .tup [], .tup [], .tup [], .tup [], .tup []]
noncomputable def S84r0 {R : Type} (call : Nat → List AV → M AV) : V84 → Nat → AS → (W84 → AS → Option R) → Option R := @V84.rec (fun _ => Nat → AS → (W84 → AS → Option R) → Option R) fun x0 x1 base s k =>
  k (.mk x0 x1 .top) s
noncomputable def S84r1 {R : Type} (call : Nat → List AV → M AV) : W84 → Nat → AS → (W84 → AS → Option R) → Option R := @W84.rec (fun _ => Nat → AS → (W84 → AS → Option R) → Option R) fun x0 x1 x4 base s k =>
  bndO (quietQ call 108 [x0, x1] s) fun y0 s =>
  k (.mk .top .top y0) s
noncomputable def S84c {R : Type} (call : Nat → List AV → M AV) (fuel : Nat) : SC V84 W84 R := sSeq (sReg 1 (S84r0 call)) (sSeq (sReg 4 (S84r1 call)) (sRet))
noncomputable def S84e : Ex → W84 → AS → Option (AV × AS) := fun e w s => (@W84.rec (fun _ => Option (AV × AS)) fun _ _ x4 => @Ex.rec (fun _ => Option (AV × AS)) (some (x4, s)) (fun _ => none) (some (x4, s)) e) w
noncomputable def S84 (call : Nat → List AV → M AV) (fuel : Nat) (args : List AV) (s : AS) : Option (AV × AS) := match args with
  | [x0, x1] => S84c call fuel (.mk x0 x1) s S84e
  | _ => none
theorem S84_sim (call : Nat → List AV → M AV) (fuel : Nat) : Sim (R := AV × AS) call fuel mi84 mo84 A84.code (S84c call fuel) := by
  refine sim_seq (sim_reg (fun ⟨x0, x1⟩ _ _ _ => by kernel_rfl)) (sim_seq (sim_reg (fun ⟨x0, x1, x4⟩ _ _ _ => by kernel_rfl)) (sim_ret))
theorem S84_ok (call : Nat → List AV → M AV) (fuel : Nat) (args : List AV) (s : AS) : afn call fuel A84 args s = S84 call fuel args s := by
  rcases args with _ | ⟨x0, _ | ⟨x1, _ | ⟨x2, r⟩⟩⟩
  · kernel_rfl
  · kernel_rfl
  · exact (afn_sim (S84_sim call fuel) (v := (.mk x0 x1)) (e2 := S84e) (by kernel_rfl) (by kernel_rfl) (fun e w s => by cases w; cases e <;> kernel_rfl)).trans (by kernel_rfl)
  · kernel_rfl
def A85 : AFn := { nargs := 2, ntmps := 9, res := [.tmp 4], code := .seq (.ops [⟨0, (some 4), none, .p (.mv (.const (.bool false))), []⟩] 1 [0, 1]) (.seq (.ops [⟨0, (some 5), none, .p (.mv (.tmp 0)), []⟩, ⟨1, (some 6), none, .p (.mv (.tmp 1)), []⟩, ⟨2, (some 7), none, .e (.call true 84 [.tmp 5, .tmp 6]), []⟩, ⟨3, (some 8), none, .p (.bin .geq (.tmp 7) (.const (.int .i64 0))), []⟩, ⟨4, (some 4), none, .p (.mv (.tmp 8)), []⟩] 5 [4]) (.ret)) }
def N85 : Notes := { note := fun _ => none, keep := fun | 1 => [4] | 0 => [0, 1] | _ => [] }
theorem A85_ok : cFn Try.prog qf N85 Try.f85 = some A85 := by kernel_rfl
inductive W85 where
  | mk (x0 x1 x4 : AV)
inductive V85 where
  | mk (x0 x1 : AV)
def mo85 : W85 → Fr := fun ⟨x0, x1, x4⟩ => [x0, x1, .top, .top, x4, .top, .top, .top, .top]
def mi85 : V85 → Fr := fun ⟨x0, x1⟩ => [x0, x1, .tup [], .tup [], .tup [], .tup [], .tup [], .tup [], .tup []]
noncomputable def S85r0 {R : Type} (call : Nat → List AV → M AV) : V85 → Nat → AS → (W85 → AS → Option R) → Option R := @V85.rec (fun _ => Nat → AS → (W85 → AS → Option R) → Option R) fun x0 x1 base s k =>
  k (.mk x0 x1 .top) s
noncomputable def S85r1 {R : Type} (call : Nat → List AV → M AV) : W85 → Nat → AS → (W85 → AS → Option R) → Option R := @W85.rec (fun _ => Nat → AS → (W85 → AS → Option R) → Option R) fun x0 x1 x4 base s k =>
  bndO (quietQ call 84 [x0, x1] s) fun y0 s =>
  bndP (binQ .geq y0 ((.int .i64 0) : AV)) fun y1 =>
  k (.mk .top .top y1) s
noncomputable def S85c {R : Type} (call : Nat → List AV → M AV) (fuel : Nat) : SC V85 W85 R := sSeq (sReg 1 (S85r0 call)) (sSeq (sReg 5 (S85r1 call)) (sRet))
noncomputable def S85e : Ex → W85 → AS → Option (AV × AS) := fun e w s => (@W85.rec (fun _ => Option (AV × AS)) fun _ _ x4 => @Ex.rec (fun _ => Option (AV × AS)) (some (x4, s)) (fun _ => none) (some (x4, s)) e) w
noncomputable def S85 (call : Nat → List AV → M AV) (fuel : Nat) (args : List AV) (s : AS) : Option (AV × AS) := match args with
  | [x0, x1] => S85c call fuel (.mk x0 x1) s S85e
  | _ => none
theorem S85_sim (call : Nat → List AV → M AV) (fuel : Nat) : Sim (R := AV × AS) call fuel mi85 mo85 A85.code (S85c call fuel) := by
  refine sim_seq (sim_reg (fun ⟨x0, x1⟩ _ _ _ => by kernel_rfl)) (sim_seq (sim_reg (fun ⟨x0, x1, x4⟩ _ _ _ => by kernel_rfl)) (sim_ret))
theorem S85_ok (call : Nat → List AV → M AV) (fuel : Nat) (args : List AV) (s : AS) : afn call fuel A85 args s = S85 call fuel args s := by
  rcases args with _ | ⟨x0, _ | ⟨x1, _ | ⟨x2, r⟩⟩⟩
  · kernel_rfl
  · kernel_rfl
  · exact (afn_sim (S85_sim call fuel) (v := (.mk x0 x1)) (e2 := S85e) (by kernel_rfl) (by kernel_rfl) (fun e w s => by cases w; cases e <;> kernel_rfl)).trans (by kernel_rfl)
  · kernel_rfl
def A86 : AFn := { nargs := 1, ntmps := 17, res := [.tmp 2], code := .seq (.ops [⟨0, (some 2), none, .p (.mv (.const (.int .i64 0))), []⟩] 1 [0]) (.seq (.ops [⟨0, (some 3), none, .p (.mv (.const (.int .i64 0))), []⟩] 1 [0, 3]) (.seq (.block 0 (.loop (.seq (.seq (.ops [⟨0, (some 4), none, .p (.mv (.tmp 3)), []⟩, ⟨1, (some 5), none, .p (.mv (.tmp 0)), []⟩, ⟨2, (some 6), none, .p (.lenS true (.tmp 5)), []⟩, ⟨3, (some 7), none, .p (.bin .lss (.tmp 4) (.tmp 6)), []⟩, ⟨4, (some 8), none, .p (.mv (.tmp 7)), []⟩, ⟨5, (some 9), (some (8, true)), .p (.mv (.tmp 0)), []⟩, ⟨6, (some 10), (some (8, true)), .p (.mv (.tmp 3)), []⟩, ⟨7, (some 11), (some (8, true)), .p (.idxs (.tmp 9) (.tmp 10)), []⟩, ⟨8, (some 12), (some (8, true)), .e (.call true 109 [.tmp 11]), []⟩, ⟨9, (some 13), none, .p (.pick (.tmp 8) (.tmp 12) (.const (.bool false))), []⟩] 10 [0, 3, 13]) (.cond (.tmp 13) (.skip) (.exit 0))) (.block 1 (.ops [⟨0, (some 14), none, .p (.mv (.tmp 3)), []⟩, ⟨1, (some 15), none, .p (.bin .add (.tmp 14) (.const (.int .i64 1))), []⟩, ⟨2, (some 3), none, .p (.mv (.tmp 15)), []⟩] 3 [0, 3]))))) (.seq (.ops [⟨0, (some 16), none, .p (.mv (.tmp 3)), []⟩, ⟨1, (some 2), none, .p (.mv (.tmp 16)), []⟩] 2 [2]) (.ret)))) }
def N86 : Notes := { note := fun _ => none, keep := fun | 4 => [2] | 3 => [0, 3] | 2 => [0, 3, 13] | 1 => [0, 3] | 0 => [0] | _ => [] }
theorem A86_ok : cFn Try.prog qf N86 Try.f86 = some A86 := by kernel_rfl
inductive W86 where
  | mk (x0 x2 x3 x13 : AV)
abbrev V86 := AV
def mo86 : W86 → Fr := fun ⟨x0, x2, x3, x13⟩ => [x0, .top, x2, x3, .top, .top, .top, .top, .top, .top, .top, .top, .top, x13, .top, .top, .top]
def mi86 : V86 → Fr := fun x0 => [x0, .tup [], .tup [], .tup [], .tup [], .tup [], .tup [], .tup [], .tup [], .tup [], .tup [], .tup [], .tup [], .tup [], .tup [], .tup [], .tup []]
noncomputable def S86r0 {R : Type} (call : Nat → List AV → M AV) : V86 → Nat → AS → (W86 → AS → Option R) → Option R := fun x0 base s k =>
  k (.mk x0 .top .top .top) s
noncomputable def S86r1 {R : Type} (call : Nat → List AV → M AV) : W86 → Nat → AS → (W86 → AS → Option R) → Option R := @W86.rec (fun _ => Nat → AS → (W86 → AS → Option R) → Option R) fun x0 x2 x3 x13 base s k =>
  k (.mk x0 .top ((.int .i64 0) : AV) .top) s
noncomputable def S86r2 {R : Type} (call : Nat → List AV → M AV) : W86 → Nat → AS → (W86 → AS → Option R) → Option R := @W86.rec (fun _ => Nat → AS → (W86 → AS → Option R) → Option R) fun x0 x2 x3 x13 base s k =>
  bndP (lenAQ true x0) fun y0 =>
  bndP (binQ .lss x3 y0) fun y1 =>
  bndO (gd (wantG y1 true) (fun s => (pureO (some x0) s)) s) fun y2 s =>
  bndO (gd (wantG y1 true) (fun s => (pureO (some x3) s)) s) fun y3 s =>
  bndO (gd (wantG y1 true) (fun s => (pureO (idxsQ y2 y3) s)) s) fun y4 s =>
  bndO (gd (wantG y1 true) (fun s => (quietQ call 109 [y4] s)) s) fun y5 s =>
  bndP (pickA y1 y5 ((.bool false) : AV)) fun y6 =>
  k (.mk x0 .top x3 y6) s
noncomputable def S86r3 {R : Type} (call : Nat → List AV → M AV) : W86 → Nat → AS → (W86 → AS → Option R) → Option R := @W86.rec (fun _ => Nat → AS → (W86 → AS → Option R) → Option R) fun x0 x2 x3 x13 base s k =>
  bndP (binQ .add x3 ((.int .i64 1) : AV)) fun y0 =>
  k (.mk x0 .top y0 .top) s
noncomputable def S86b4 {R : Type} (call : Nat → List AV → M AV) (fuel : Nat) : SC W86 W86 R := sSeq (sSeq (sReg 10 (S86r2 call)) (sCond (@W86.rec (fun _ => AV) fun _ _ _ x13 => x13) (sSkip) (sExit 0))) (sBlock 1 (sReg 3 (S86r3 call)))
noncomputable def S86r5 {R : Type} (call : Nat → List AV → M AV) : W86 → Nat → AS → (W86 → AS → Option R) → Option R := @W86.rec (fun _ => Nat → AS → (W86 → AS → Option R) → Option R) fun x0 x2 x3 x13 base s k =>
  k (.mk .top x3 .top .top) s
noncomputable def S86c {R : Type} (call : Nat → List AV → M AV) (fuel : Nat) : SC V86 W86 R := sSeq (sReg 1 (S86r0 call)) (sSeq (sReg 1 (S86r1 call)) (sSeq (sBlock 0 (sLoop fuel (S86b4 call fuel))) (sSeq (sReg 2 (S86r5 call)) (sRet))))
noncomputable def S86e : Ex → W86 → AS → Option (AV × AS) := fun e w s => (@W86.rec (fun _ => Option (AV × AS)) fun _ x2 _ _ => @Ex.rec (fun _ => Option (AV × AS)) (some (x2, s)) (fun _ => none) (some (x2, s)) e) w
noncomputable def S86 (call : Nat → List AV → M AV) (fuel : Nat) (args : List AV) (s : AS) : Option (AV × AS) := match args with
  | [x0] => S86c call fuel x0 s S86e
  | _ => none
theorem S86_sim (call : Nat → List AV → M AV) (fuel : Nat) : Sim (R := AV × AS) call fuel mi86 mo86 A86.code (S86c call fuel) := by
  refine sim_seq (sim_reg (fun x0 _ _ _ => by kernel_rfl)) (sim_seq (sim_reg (fun ⟨x0, x2, x3, x13⟩ _ _ _ => by kernel_rfl)) (sim_seq (sim_block (sim_loop (sim_seq (sim_seq (sim_reg (fun ⟨x0, x2, x3, x13⟩ _ _ _ => by kernel_rfl)) (sim_cond (fun ⟨x0, x2, x3, x13⟩ => by kernel_rfl) (sim_skip) (sim_exit))) (sim_block (sim_reg (fun ⟨x0, x2, x3, x13⟩ _ _ _ => by kernel_rfl)))))) (sim_seq (sim_reg (fun ⟨x0, x2, x3, x13⟩ _ _ _ => by kernel_rfl)) (sim_ret))))
theorem S86_ok (call : Nat → List AV → M AV) (fuel : Nat) (args : List AV) (s : AS) : afn call fuel A86 args s = S86 call fuel args s := by
  rcases args with _ | ⟨x0, _ | ⟨x1, r⟩⟩
  · kernel_rfl
  · exact (afn_sim (S86_sim call fuel) (v := x0) (e2 := S86e) (by kernel_rfl) (by kernel_rfl) (fun e w s => by cases w; cases e <;> kernel_rfl)).trans (by kernel_rfl)
  · kernel_rfl
def A87 : AFn := { nargs := 1, ntmps := 20, res := [.cell 2 true 3], code := .seq (.ops [⟨0, (some 2), none, .l (.alloc [.int .i64 0, .int .i64 0, .str []]), []⟩] 1 [0, 2]) (.seq (.seq (.ops [⟨0, (some 3), none, .p (.mv (.tmp 0)), []⟩, ⟨1, (some 4), none, .p (.nilchk (.tmp 3)), []⟩, ⟨2, (some 5), none, .p (.fld 0 (.tmp 4)), []⟩, ⟨3, (some 6), none, .r (.load false 1 (.tmp 5)), []⟩, ⟨4, (some 7), none, .p (.lenS false (.tmp 6)), []⟩, ⟨5, (some 8), none, .p (.bin .eql (.tmp 7) (.const (.int .i64 0))), []⟩] 6 [0, 2, 8]) (.cond (.tmp 8) (.seq (.ops [⟨0, (some 9), none, .p (.mv (.tmp 0)), []⟩, ⟨1, (some 10), none, .p (.nilchk (.tmp 9)), []⟩, ⟨2, (some 11), none, .p (.fld 1 (.tmp 10)), []⟩, ⟨3, (some 12), none, .r (.load false 1 (.tmp 11)), []⟩, ⟨4, (some 13), none, .p (.build [.int .i64 0, .int .i64 0, .str []] [(1, 1, .tmp 12)]), []⟩, ⟨5, none, none, .e (.store (.tmp 2) (.tmp 13) 3), []⟩] 6 [2]) (.ret)) (.skip))) (.seq (.ops [⟨0, (some 14), none, .p (.mv (.tmp 0)), []⟩, ⟨1, (some 15), none, .p (.nilchk (.tmp 14)), []⟩, ⟨2, (some 16), none, .p (.fld 0 (.tmp 15)), []⟩, ⟨3, (some 17), none, .r (.load false 1 (.tmp 16)), []⟩, ⟨4, (some 18), none, .p (.idx 3 (.tmp 17) (.const (.int .i64 0))), []⟩, ⟨5, (some 19), none, .r (.load true 3 (.tmp 18)), []⟩, ⟨6, none, none, .e (.store (.tmp 2) (.tmp 19) 3), []⟩] 7 [2]) (.ret))) }
def N87 : Notes := { note := fun _ => none, keep := fun | 3 => [2] | 2 => [2] | 1 => [0, 2, 8] | 0 => [0, 2] | _ => [] }
theorem A87_ok : cFn Try.prog qf N87 Try.f87 = some A87 := by kernel_rfl
inductive W87 where
  | mk (x0 x2 x8 : AV)
abbrev V87 := AV
def mo87 : W87 → Fr := fun ⟨x0, x2, x8⟩ => [x0, .top, x2, .top, .top, .top, .top, .top, x8, .top, .top, .top, .top, .top, .top, .top, .top, .top, .top, .top]
def mi87 : V87 → Fr := fun x0 => [x0, .tup [], .tup [], .tup [], .tup [], .tup [], .tup [], .tup [], .tup [], .tup [], .tup [], .tup [], .tup [], .tup [], .tup [], .tup [], .tup [], .tup [], .tup [], .tup []]
noncomputable def S87r0 {R : Type} (call : Nat → List AV → M AV) : V87 → Nat → AS → (W87 → AS → Option R) → Option R := fun x0 base s k =>
  bndO (newQ (base + 0) (allocB [(.int .i64 0), (.int .i64 0), (.str [])] (base + 0)) s) fun y0 s =>
  k (.mk x0 y0 .top) s
noncomputable def S87r1 {R : Type} (call : Nat → List AV → M AV) : W87 → Nat → AS → (W87 → AS → Option R) → Option R := @W87.rec (fun _ => Nat → AS → (W87 → AS → Option R) → Option R) fun x0 x2 x8 base s k =>
  bndP (nilchkA x0) fun y0 =>
  bndP (fldA 0 y0) fun y1 =>
  bndP (loadQ false 1 y1 s.h) fun y2 =>
  bndP (lenAQ false y2) fun y3 =>
  bndP (binQ .eql y3 ((.int .i64 0) : AV)) fun y4 =>
  k (.mk x0 x2 y4) s
noncomputable def S87r2 {R : Type} (call : Nat → List AV → M AV) : W87 → Nat → AS → (W87 → AS → Option R) → Option R := @W87.rec (fun _ => Nat → AS → (W87 → AS → Option R) → Option R) fun x0 x2 x8 base s k =>
  bndP (nilchkA x0) fun y0 =>
  bndP (fldA 1 y0) fun y1 =>
  bndP (loadQ false 1 y1 s.h) fun y2 =>
  bndP (buildA [(.int .i64 0), (.int .i64 0), (.str [])] [(1, 1, y2)]) fun y3 =>
  bndO (storeQ x2 y3 3 s) fun _ s =>
  k (.mk .top x2 .top) s
noncomputable def S87r3 {R : Type} (call : Nat → List AV → M AV) : W87 → Nat → AS → (W87 → AS → Option R) → Option R := @W87.rec (fun _ => Nat → AS → (W87 → AS → Option R) → Option R) fun x0 x2 x8 base s k =>
  bndP (nilchkA x0) fun y0 =>
  bndP (fldA 0 y0) fun y1 =>
  bndP (loadQ false 1 y1 s.h) fun y2 =>
  bndP (idxQ 3 y2 ((.int .i64 0) : AV)) fun y3 =>
  bndP (loadQ true 3 y3 s.h) fun y4 =>
  bndO (storeQ x2 y4 3 s) fun _ s =>
  k (.mk .top x2 .top) s
noncomputable def S87c {R : Type} (call : Nat → List AV → M AV) (fuel : Nat) : SC V87 W87 R := sSeq (sReg 1 (S87r0 call)) (sSeq (sSeq (sReg 6 (S87r1 call)) (sCond (@W87.rec (fun _ => AV) fun _ _ x8 => x8) (sSeq (sReg 6 (S87r2 call)) (sRet)) (sSkip))) (sSeq (sReg 7 (S87r3 call)) (sRet)))
noncomputable def S87e : Ex → W87 → AS → Option (AV × AS) := fun e w s => (@W87.rec (fun _ => Option (AV × AS)) fun _ x2 _ => @Ex.rec (fun _ => Option (AV × AS)) (match resS [fun h => loadA true 3 x2 h] s.h with | some vs => some (shut vs, s) | none => none) (fun _ => none) (match resS [fun h => loadA true 3 x2 h] s.h with | some vs => some (shut vs, s) | none => none) e) w
noncomputable def S87 (call : Nat → List AV → M AV) (fuel : Nat) (args : List AV) (s : AS) : Option (AV × AS) := match args with
  | [x0] => S87c call fuel x0 s S87e
  | _ => none
theorem S87_sim (call : Nat → List AV → M AV) (fuel : Nat) : Sim (R := AV × AS) call fuel mi87 mo87 A87.code (S87c call fuel) := by
  refine sim_seq (sim_reg (fun x0 _ _ _ => by kernel_rfl)) (sim_seq (sim_seq (sim_reg (fun ⟨x0, x2, x8⟩ _ _ _ => by kernel_rfl)) (sim_cond (fun ⟨x0, x2, x8⟩ => by kernel_rfl) (sim_seq (sim_reg (fun ⟨x0, x2, x8⟩ _ _ _ => by kernel_rfl)) (sim_ret)) (sim_skip))) (sim_seq (sim_reg (fun ⟨x0, x2, x8⟩ _ _ _ => by kernel_rfl)) (sim_ret)))
theorem S87_ok (call : Nat → List AV → M AV) (fuel : Nat) (args : List AV) (s : AS) : afn call fuel A87 args s = S87 call fuel args s := by
  rcases args with _ | ⟨x0, _ | ⟨x1, r⟩⟩
  · kernel_rfl
  · exact (afn_sim (S87_sim call fuel) (v := x0) (e2 := S87e) (by kernel_rfl) (by kernel_rfl) (fun e w s => by cases w; cases e <;> kernel_rfl)).trans (by kernel_rfl)
  · kernel_rfl
def A88 : AFn := { nargs := 1, ntmps := 23, res := [.tmp 2], code := .seq (.ops [⟨0, (some 1), none, .l (.box (.tmp 0)), []⟩, ⟨1, (some 2), none, .p (.mv (.const (.bool false))), []⟩] 2 [1]) (.seq (.ops [⟨0, (some 3), none, .p (.fld 0 (.tmp 1)), []⟩, ⟨1, (some 4), none, .r (.load false 1 (.tmp 3)), []⟩, ⟨2, (some 5), none, .p (.bin .eql (.tmp 4) (.const (.int .i64 1))), []⟩, ⟨3, (some 6), none, .p (.mv (.tmp 5)), []⟩, ⟨4, (some 7), (some (6, true)), .p (.fld 2 (.tmp 1)), []⟩, ⟨5, (some 8), (some (6, true)), .r (.load false 1 (.tmp 7)), []⟩, ⟨6, (some 9), (some (6, true)), .p (.lenS true (.tmp 8)), []⟩, ⟨7, (some 10), (some (6, true)), .p (.bin .leq (.tmp 9) (.const (.int .i64 30))), []⟩, ⟨8, (some 11), none, .p (.pick (.tmp 6) (.tmp 10) (.const (.bool false))), []⟩, ⟨9, (some 12), none, .p (.mv (.tmp 11)), []⟩, ⟨10, (some 13), (some (12, true)), .p (.fld 2 (.tmp 1)), []⟩, ⟨11, (some 14), (some (12, true)), .r (.load false 1 (.tmp 13)), []⟩, ⟨12, (some 15), (some (12, true)), .p (.idxs (.tmp 14) (.const (.int .i64 0))), []⟩, ⟨13, (some 16), (some (12, true)), .p (.bin .neq (.tmp 15) (.const (.int .u8 95))), []⟩, ⟨14, (some 17), none, .p (.pick (.tmp 12) (.tmp 16) (.const (.bool false))), []⟩, ⟨15, (some 18), none, .p (.mv (.tmp 17)), []⟩, ⟨16, (some 19), (some (18, true)), .p (.fld 2 (.tmp 1)), []⟩, ⟨17, (some 20), (some (18, true)), .r (.load false 1 (.tmp 19)), []⟩, ⟨18, (some 21), (some (18, true)), .p (.bin .neq (.tmp 20) (.const (.str [116, 121, 112, 101]))), []⟩, ⟨19, (some 22), none, .p (.pick (.tmp 18) (.tmp 21) (.const (.bool false))), []⟩, ⟨20, (some 2), none, .p (.mv (.tmp 22)), []⟩] 21 [2]) (.ret)) }
def N88 : Notes := { note := fun _ => none, keep := fun | 1 => [2] | 0 => [1] | _ => [] }
theorem A88_ok : cFn Try.prog qf N88 Try.f88 = some A88 := by kernel_rfl
inductive W88 where
  | mk (x1 x2 : AV)
abbrev V88 := AV
def mo88 : W88 → Fr := fun ⟨x1, x2⟩ => [.top, x1, x2, .top, .top, .top, .top, .top, .top, .top, .top, .top, .top, .top, .top, .top, .top, .top, .top, .top, .top, .top, .top]
def mi88 : V88 → Fr := fun x0 => [x0, .tup [], .tup [], .tup [], .tup [], .tup [], .tup [], .tup [], .tup [], .tup [], .tup [], .tup [], .tup [], .tup [], .tup [], .tup [], .tup [], .tup [], .tup [], .tup [], .tup [], .tup [], .tup []]
noncomputable def S88r0 {R : Type} (call : Nat → List AV → M AV) : V88 → Nat → AS → (W88 → AS → Option R) → Option R := fun x0 base s k =>
  bndO (newQ (base + 0) (boxB x0 (base + 0)) s) fun y0 s =>
  k (.mk y0 .top) s
noncomputable def S88r1 {R : Type} (call : Nat → List AV → M AV) : W88 → Nat → AS → (W88 → AS → Option R) → Option R := @W88.rec (fun _ => Nat → AS → (W88 → AS → Option R) → Option R) fun x1 x2 base s k =>
  bndP (fldA 0 x1) fun y0 =>
  bndP (loadQ false 1 y0 s.h) fun y1 =>
  bndP (binQ .eql y1 ((.int .i64 1) : AV)) fun y2 =>
  bndO (gd (wantG y2 true) (fun s => (pureO (fldA 2 x1) s)) s) fun y3 s =>
  bndO (gd (wantG y2 true) (fun s => (pureO (loadQ false 1 y3 s.h) s)) s) fun y4 s =>
  bndO (gd (wantG y2 true) (fun s => (pureO (lenAQ true y4) s)) s) fun y5 s =>
  bndO (gd (wantG y2 true) (fun s => (pureO (binQ .leq y5 ((.int .i64 30) : AV)) s)) s) fun y6 s =>
  bndP (pickA y2 y6 ((.bool false) : AV)) fun y7 =>
  bndO (gd (wantG y7 true) (fun s => (pureO (fldA 2 x1) s)) s) fun y8 s =>
  bndO (gd (wantG y7 true) (fun s => (pureO (loadQ false 1 y8 s.h) s)) s) fun y9 s =>
  bndO (gd (wantG y7 true) (fun s => (pureO (idxsQ y9 ((.int .i64 0) : AV)) s)) s) fun y10 s =>
  bndO (gd (wantG y7 true) (fun s => (pureO (binQ .neq y10 ((.int .u8 95) : AV)) s)) s) fun y11 s =>
  bndP (pickA y7 y11 ((.bool false) : AV)) fun y12 =>
  bndO (gd (wantG y12 true) (fun s => (pureO (fldA 2 x1) s)) s) fun y13 s =>
  bndO (gd (wantG y12 true) (fun s => (pureO (loadQ false 1 y13 s.h) s)) s) fun y14 s =>
  bndO (gd (wantG y12 true) (fun s => (pureO (binQ .neq y14 ((.str [116, 121, 112, 101]) : AV)) s)) s) fun y15 s =>
  bndP (pickA y12 y15 ((.bool false) : AV)) fun y16 =>
  k (.mk .top y16) s
noncomputable def S88c {R : Type} (call : Nat → List AV → M AV) (fuel : Nat) : SC V88 W88 R := sSeq (sReg 2 (S88r0 call)) (sSeq (sReg 21 (S88r1 call)) (sRet))
noncomputable def S88e : Ex → W88 → AS → Option (AV × AS) := fun e w s => (@W88.rec (fun _ => Option (AV × AS)) fun _ x2 => @Ex.rec (fun _ => Option (AV × AS)) (some (x2, s)) (fun _ => none) (some (x2, s)) e) w
noncomputable def S88 (call : Nat → List AV → M AV) (fuel : Nat) (args : List AV) (s : AS) : Option (AV × AS) := match args with
  | [x0] => S88c call fuel x0 s S88e
  | _ => none
theorem S88_sim (call : Nat → List AV → M AV) (fuel : Nat) : Sim (R := AV × AS) call fuel mi88 mo88 A88.code (S88c call fuel) := by
  refine sim_seq (sim_reg (fun x0 _ _ _ => by kernel_rfl)) (sim_seq (sim_reg (fun ⟨x1, x2⟩ _ _ _ => by kernel_rfl)) (sim_ret))
theorem S88_ok (call : Nat → List AV → M AV) (fuel : Nat) (args : List AV) (s : AS) : afn call fuel A88 args s = S88 call fuel args s := by
  rcases args with _ | ⟨x0, _ | ⟨x1, r⟩⟩
  · kernel_rfl
  · exact (afn_sim (S88_sim call fuel) (v := x0) (e2 := S88e) (by kernel_rfl) (by kernel_rfl) (fun e w s => by cases w; cases e <;> kernel_rfl)).trans (by kernel_rfl)
  · kernel_rfl
def A89 : AFn := { nargs := 2, ntmps := 17, res := [.tmp 4], code := .seq (.ops [⟨0, (some 4), none, .p (.mv (.const (.bool false))), []⟩] 1 [0, 1]) (.seq (.ops [⟨0, (some 6), none, .p (.mv (.tmp 0)), []⟩, ⟨1, (some 7), none, .e (.call true 87 [.tmp 6]), []⟩, ⟨2, (some 5), none, .l (.alloc [.int .i64 0, .int .i64 0, .str []]), []⟩, ⟨3, none, none, .e (.store (.tmp 5) (.tmp 7) 3), []⟩] 4 [1, 5]) (.seq (.ops [⟨0, (some 8), none, .p (.fld 0 (.tmp 5)), []⟩, ⟨1, (some 9), none, .r (.load false 1 (.tmp 8)), []⟩, ⟨2, (some 10), none, .p (.bin .eql (.tmp 9) (.const (.int .i64 2))), []⟩, ⟨3, (some 11), none, .p (.mv (.tmp 10)), []⟩, ⟨4, (some 12), (some (11, true)), .p (.fld 2 (.tmp 5)), []⟩, ⟨5, (some 13), (some (11, true)), .r (.load false 1 (.tmp 12)), []⟩, ⟨6, (some 14), (some (11, true)), .p (.mv (.tmp 1)), []⟩, ⟨7, (some 15), (some (11, true)), .p (.bin .eql (.tmp 13) (.tmp 14)), []⟩, ⟨8, (some 16), none, .p (.pick (.tmp 11) (.tmp 15) (.const (.bool false))), []⟩, ⟨9, (some 4), none, .p (.mv (.tmp 16)), []⟩] 10 [4]) (.ret))) }
def N89 : Notes := { note := fun _ => none, keep := fun | 2 => [4] | 1 => [1, 5] | 0 => [0, 1] | _ => [] }
theorem A89_ok : cFn Try.prog qf N89 Try.f89 = some A89 := by kernel_rfl
inductive W89 where
  | mk (x0 x1 x4 x5 : AV)
inductive V89 where
  | mk (x0 x1 : AV)
def mo89 : W89 → Fr := fun ⟨x0, x1, x4, x5⟩ => [x0, x1, .top, .top, x4, x5, .top, .top, .top, .top, .top, .top, .top, .top, .top, .top, .top]
def mi89 : V89 → Fr := fun ⟨x0, x1⟩ => [x0, x1, .tup [], .tup [], .tup [], .tup [], .tup [], .tup [], .tup [], .tup [], .tup [], .tup [], .tup [], .tup [], .tup [], .tup [], .tup []]
noncomputable def S89r0 {R : Type} (call : Nat → List AV → M AV) : V89 → Nat → AS → (W89 → AS → Option R) → Option R := @V89.rec (fun _ => Nat → AS → (W89 → AS → Option R) → Option R) fun x0 x1 base s k =>
  k (.mk x0 x1 .top .top) s
noncomputable def S89r1 {R : Type} (call : Nat → List AV → M AV) : W89 → Nat → AS → (W89 → AS → Option R) → Option R := @W89.rec (fun _ => Nat → AS → (W89 → AS → Option R) → Option R) fun x0 x1 x4 x5 base s k =>
  bndO (quietQ call 87 [x0] s) fun y0 s =>
  bndO (newQ (base + 2) (allocB [(.int .i64 0), (.int .i64 0), (.str [])] (base + 2)) s) fun y1 s =>
  bndO (storeQ y1 y0 3 s) fun _ s =>
  k (.mk .top x1 .top y1) s
noncomputable def S89r2 {R : Type} (call : Nat → List AV → M AV) : W89 → Nat → AS → (W89 → AS → Option R) → Option R := @W89.rec (fun _ => Nat → AS → (W89 → AS → Option R) → Option R) fun x0 x1 x4 x5 base s k =>
  bndP (fldA 0 x5) fun y0 =>
  bndP (loadQ false 1 y0 s.h) fun y1 =>
  bndP (binQ .eql y1 ((.int .i64 2) : AV)) fun y2 =>
  bndO (gd (wantG y2 true) (fun s => (pureO (fldA 2 x5) s)) s) fun y3 s =>
  bndO (gd (wantG y2 true) (fun s => (pureO (loadQ false 1 y3 s.h) s)) s) fun y4 s =>
  bndO (gd (wantG y2 true) (fun s => (pureO (some x1) s)) s) fun y5 s =>
  bndO (gd (wantG y2 true) (fun s => (pureO (binQ .eql y4 y5) s)) s) fun y6 s =>
  bndP (pickA y2 y6 ((.bool false) : AV)) fun y7 =>
  k (.mk .top .top y7 .top) s
noncomputable def S89c {R : Type} (call : Nat → List AV → M AV) (fuel : Nat) : SC V89 W89 R := sSeq (sReg 1 (S89r0 call)) (sSeq (sReg 4 (S89r1 call)) (sSeq (sReg 10 (S89r2 call)) (sRet)))
noncomputable def S89e : Ex → W89 → AS → Option (AV × AS) := fun e w s => (@W89.rec (fun _ => Option (AV × AS)) fun _ _ x4 _ => @Ex.rec (fun _ => Option (AV × AS)) (some (x4, s)) (fun _ => none) (some (x4, s)) e) w
noncomputable def S89 (call : Nat → List AV → M AV) (fuel : Nat) (args : List AV) (s : AS) : Option (AV × AS) := match args with
  | [x0, x1] => S89c call fuel (.mk x0 x1) s S89e
  | _ => none
theorem S89_sim (call : Nat → List AV → M AV) (fuel : Nat) : Sim (R := AV × AS) call fuel mi89 mo89 A89.code (S89c call fuel) := by
  refine sim_seq (sim_reg (fun ⟨x0, x1⟩ _ _ _ => by kernel_rfl)) (sim_seq (sim_reg (fun ⟨x0, x1, x4, x5⟩ _ _ _ => by kernel_rfl)) (sim_seq (sim_reg (fun ⟨x0, x1, x4, x5⟩ _ _ _ => by kernel_rfl)) (sim_ret)))
theorem S89_ok (call : Nat → List AV → M AV) (fuel : Nat) (args : List AV) (s : AS) : afn call fuel A89 args s = S89 call fuel args s := by
  rcases args with _ | ⟨x0, _ | ⟨x1, _ | ⟨x2, r⟩⟩⟩
  · kernel_rfl
  · kernel_rfl
  · exact (afn_sim (S89_sim call fuel) (v := (.mk x0 x1)) (e2 := S89e) (by kernel_rfl) (by kernel_rfl) (fun e w s => by cases w; cases e <;> kernel_rfl)).trans (by kernel_rfl)
  · kernel_rfl
def A90 : AFn := { nargs := 2, ntmps := 19, res := [.tmp 4], code := .seq (.ops [⟨0, (some 4), none, .p (.mv (.const (.bool false))), []⟩] 1 [0, 1]) (.seq (.seq (.ops [⟨0, (some 5), none, .p (.mv (.tmp 0)), []⟩, ⟨1, (some 6), none, .p (.mv (.tmp 1)), []⟩, ⟨2, (some 7), none, .e (.call true 89 [.tmp 5, .tmp 6]), []⟩, ⟨3, (some 8), none, .p (.notb (.tmp 7)), []⟩] 4 [0, 8]) (.cond (.tmp 8) (.seq (.ops [⟨0, (some 9), none, .p (.mv (.tmp 0)), []⟩, ⟨1, (some 10), none, .e (.call false 58 [.tmp 9, .const (.int .i64 9)]), []⟩, ⟨2, (some 4), none, .p (.mv (.tmp 10)), []⟩] 3 [4]) (.ret)) (.skip))) (.seq (.ops [⟨0, (some 11), none, .p (.mv (.tmp 0)), []⟩, ⟨1, (some 12), none, .p (.mv (.tmp 0)), []⟩, ⟨2, (some 13), none, .p (.nilchk (.tmp 12)), []⟩, ⟨3, (some 14), none, .p (.fld 0 (.tmp 13)), []⟩, ⟨4, (some 15), none, .r (.load false 1 (.tmp 14)), []⟩, ⟨5, (some 16), none, .p (.cut 3 (.tmp 15) (some (.const (.int .i64 1))) none none), []⟩, ⟨6, (some 17), none, .p (.nilchk (.tmp 11)), []⟩, ⟨7, (some 18), none, .p (.fld 0 (.tmp 17)), []⟩, ⟨8, none, none, .e (.store (.tmp 18) (.tmp 16) 1), []⟩] 9 []) (.seq (.ops [⟨0, (some 4), none, .p (.mv (.const (.bool true))), []⟩] 1 [4]) (.ret)))) }
def N90 : Notes := { note := fun _ => none, keep := fun | 4 => [4] | 3 => [] | 2 => [4] | 1 => [0, 8] | 0 => [0, 1] | _ => [] }
theorem A90_ok : cFn Try.prog qf N90 Try.f90 = some A90 := by kernel_rfl
inductive W90 where
  | mk (x0 x1 x4 x8 : AV)
inductive V90 where
  | mk (x0 x1 : AV)
def mo90 : W90 → Fr := fun ⟨x0, x1, x4, x8⟩ => [x0, x1, .top, .top, x4, .top, .top, .top, x8, .top, .top, .top, .top, .top, .top, .top, .top, .top, .top]
def mi90 : V90 → Fr := fun ⟨x0, x1⟩ => [x0, x1, .tup [], .tup [], .tup [], .tup [], .tup [], .tup [], .tup [], .tup [], .tup [], .tup [], .tup [], .tup [], .tup [], .tup [], .tup [], .tup [], .tup []]
noncomputable def S90r0 {R : Type} (call : Nat → List AV → M AV) : V90 → Nat → AS → (W90 → AS → Option R) → Option R := @V90.rec (fun _ => Nat → AS → (W90 → AS → Option R) → Option R) fun x0 x1 base s k =>
  k (.mk x0 x1 .top .top) s
noncomputable def S90r1 {R : Type} (call : Nat → List AV → M AV) : W90 → Nat → AS → (W90 → AS → Option R) → Option R := @W90.rec (fun _ => Nat → AS → (W90 → AS → Option R) → Option R) fun x0 x1 x4 x8 base s k =>
  bndO (quietQ call 89 [x0, x1] s) fun y0 s =>
  bndP (notA y0) fun y1 =>
  k (.mk x0 .top .top y1) s
noncomputable def S90r2 {R : Type} (call : Nat → List AV → M AV) : W90 → Nat → AS → (W90 → AS → Option R) → Option R := @W90.rec (fun _ => Nat → AS → (W90 → AS → Option R) → Option R) fun x0 x1 x4 x8 base s k =>
  bndO (call 58 [x0, ((.int .i64 9) : AV)] s) fun y0 s =>
  k (.mk .top .top y0 .top) s
noncomputable def S90r3 {R : Type} (call : Nat → List AV → M AV) : W90 → Nat → AS → (W90 → AS → Option R) → Option R := @W90.rec (fun _ => Nat → AS → (W90 → AS → Option R) → Option R) fun x0 x1 x4 x8 base s k =>
  bndP (nilchkA x0) fun y0 =>
  bndP (fldA 0 y0) fun y1 =>
  bndP (loadQ false 1 y1 s.h) fun y2 =>
  bndP (strN (cutV 3 y2 (some ((.int .i64 1) : AV)) none none)) fun y3 =>
  bndP (nilchkA x0) fun y4 =>
  bndP (fldA 0 y4) fun y5 =>
  bndO (storeQ y5 y3 1 s) fun _ s =>
  k (.mk .top .top .top .top) s
noncomputable def S90r4 {R : Type} (call : Nat → List AV → M AV) : W90 → Nat → AS → (W90 → AS → Option R) → Option R := @W90.rec (fun _ => Nat → AS → (W90 → AS → Option R) → Option R) fun x0 x1 x4 x8 base s k =>
  k (.mk .top .top ((.bool true) : AV) .top) s
noncomputable def S90c {R : Type} (call : Nat → List AV → M AV) (fuel : Nat) : SC V90 W90 R := sSeq (sReg 1 (S90r0 call)) (sSeq (sSeq (sReg 4 (S90r1 call)) (sCond (@W90.rec (fun _ => AV) fun _ _ _ x8 => x8) (sSeq (sReg 3 (S90r2 call)) (sRet)) (sSkip))) (sSeq (sReg 9 (S90r3 call)) (sSeq (sReg 1 (S90r4 call)) (sRet))))
noncomputable def S90e : Ex → W90 → AS → Option (AV × AS) := fun e w s => (@W90.rec (fun _ => Option (AV × AS)) fun _ _ x4 _ => @Ex.rec (fun _ => Option (AV × AS)) (some (x4, s)) (fun _ => none) (some (x4, s)) e) w
noncomputable def S90 (call : Nat → List AV → M AV) (fuel : Nat) (args : List AV) (s : AS) : Option (AV × AS) := match args with
  | [x0, x1] => S90c call fuel (.mk x0 x1) s S90e
  | _ => none
theorem S90_sim (call : Nat → List AV → M AV) (fuel : Nat) : Sim (R := AV × AS) call fuel mi90 mo90 A90.code (S90c call fuel) := by
  refine sim_seq (sim_reg (fun ⟨x0, x1⟩ _ _ _ => by kernel_rfl)) (sim_seq (sim_seq (sim_reg (fun ⟨x0, x1, x4, x8⟩ _ _ _ => by kernel_rfl)) (sim_cond (fun ⟨x0, x1, x4, x8⟩ => by kernel_rfl) (sim_seq (sim_reg (fun ⟨x0, x1, x4, x8⟩ _ _ _ => by kernel_rfl)) (sim_ret)) (sim_skip))) (sim_seq (sim_reg (fun ⟨x0, x1, x4, x8⟩ _ _ _ => by kernel_rfl)) (sim_seq (sim_reg (fun ⟨x0, x1, x4, x8⟩ _ _ _ => by kernel_rfl)) (sim_ret))))
theorem S90_ok (call : Nat → List AV → M AV) (fuel : Nat) (args : List AV) (s : AS) : afn call fuel A90 args s = S90 call fuel args s := by
  rcases args with _ | ⟨x0, _ | ⟨x1, _ | ⟨x2, r⟩⟩⟩
  · kernel_rfl
  · kernel_rfl
  · exact (afn_sim (S90_sim call fuel) (v := (.mk x0 x1)) (e2 := S90e) (by kernel_rfl) (by kernel_rfl) (fun e w s => by cases w; cases e <;> kernel_rfl)).trans (by kernel_rfl)
  · kernel_rfl
def A91 : AFn := { nargs := 1, ntmps := 33, res := [.tmp 2], code := .seq (.ops [⟨0, (some 2), none, .p (.mv (.const (.bool false))), []⟩] 1 [0]) (.seq (.seq (.ops [⟨0, (some 5), none, .p (.mv (.tmp 0)), []⟩, ⟨1, (some 6), none, .e (.call false 110 [.tmp 5]), []⟩, ⟨2, (some 7), none, .p (.notb (.tmp 6)), []⟩] 3 [0, 7]) (.cond (.tmp 7) (.seq (.ops [⟨0, (some 2), none, .p (.mv (.const (.bool false))), []⟩] 1 [2]) (.ret)) (.skip))) (.seq (.block 0 (.loop (.seq (.seq (.ops [⟨0, (some 8), none, .p (.mv (.tmp 0)), []⟩, ⟨1, (some 9), none, .e (.call true 89 [.tmp 8, .const (.str [43])]), []⟩, ⟨2, (some 10), none, .p (.mv (.tmp 9)), []⟩, ⟨3, (some 11), (some (10, false)), .p (.mv (.tmp 0)), []⟩, ⟨4, (some 12), (some (10, false)), .e (.call true 89 [.tmp 11, .const (.str [45])]), []⟩, ⟨5, (some 13), none, .p (.pick (.tmp 10) (.const (.bool true)) (.tmp 12)), []⟩] 6 [0, 13]) (.cond (.tmp 13) (.skip) (.exit 0))) (.block 1 (.seq (.ops [⟨0, (some 14), none, .p (.mv (.tmp 0)), []⟩, ⟨1, (some 15), none, .e (.call true 87 [.tmp 14]), []⟩, ⟨2, (some 16), none, .p (.part false 1 1 (.tmp 15)), []⟩, ⟨3, (some 3), none, .p (.mv (.const (.int .i64 3))), []⟩, ⟨4, (some 4), none, .p (.mv (.tmp 16)), []⟩] 5 [0, 3, 4]) (.seq (.seq (.ops [⟨0, (some 17), none, .p (.mv (.tmp 0)), []⟩, ⟨1, (some 18), none, .e (.call false 60 [.tmp 17, .const (.str [43])]), []⟩, ⟨2, (some 19), none, .p (.notb (.tmp 18)), []⟩] 3 [0, 3, 4, 19]) (.cond (.tmp 19) (.seq (.ops [⟨0, (some 3), none, .p (.mv (.const (.int .i64 4))), []⟩] 1 [0, 3, 4]) (.ops [⟨0, (some 20), none, .p (.mv (.tmp 0)), []⟩, ⟨1, (some 21), none, .e (.call false 60 [.tmp 20, .const (.str [45])]), []⟩] 2 [0, 3, 4])) (.skip))) (.seq (.ops [⟨0, (some 22), none, .p (.mv (.tmp 0)), []⟩, ⟨1, (some 23), none, .e (.call false 110 [.tmp 22]), []⟩, ⟨2, (some 24), none, .p (.notb (.tmp 23)), []⟩, ⟨3, (some 25), none, .p (.mv (.tmp 24)), []⟩, ⟨4, (some 26), (some (25, false)), .p (.mv (.tmp 0)), []⟩, ⟨5, (some 27), (some (25, false)), .p (.mv (.tmp 3)), []⟩, ⟨6, (some 28), (some (25, false)), .p (.build [.int .i64 0, .str [], .str []] [(0, 1, .tmp 27)]), []⟩, ⟨7, (some 29), (some (25, false)), .p (.mv (.tmp 4)), []⟩, ⟨8, (some 30), (some (25, false)), .e (.call false 111 [.tmp 26, .tmp 28, .tmp 29]), []⟩, ⟨9, (some 31), (some (25, false)), .p (.notb (.tmp 30)), []⟩, ⟨10, (some 32), none, .p (.pick (.tmp 25) (.const (.bool true)) (.tmp 31)), []⟩] 11 [0, 32]) (.cond (.tmp 32) (.seq (.ops [⟨0, (some 2), none, .p (.mv (.const (.bool false))), []⟩] 1 [2]) (.ret)) (.skip))))))))) (.seq (.ops [⟨0, (some 2), none, .p (.mv (.const (.bool true))), []⟩] 1 [2]) (.ret)))) }
def N91 : Notes := { note := fun _ => none, keep := fun | 10 => [2] | 9 => [2] | 8 => [0, 32] | 7 => [0, 3, 4] | 6 => [0, 3, 4] | 5 => [0, 3, 4, 19] | 4 => [0, 3, 4] | 3 => [0, 13] | 2 => [2] | 1 => [0, 7] | 0 => [0] | _ => [] }
theorem A91_ok : cFn Try.prog qf N91 Try.f91 = some A91 := by kernel_rfl
inductive W91 where
  | mk (x0 x2 x3 x4 x7 x13 x19 x32 : AV)
abbrev V91 := AV
def mo91 : W91 → Fr := fun ⟨x0, x2, x3, x4, x7, x13, x19, x32⟩ => [x0, .top, x2, x3, x4, .top, .top, x7, .top, .top, .top, .top, .top, x13, .top, .top, .top, .top, .top, x19, .top, .top, .top, .top, .top, .top, .top, .top, .top, .top, .top, .top, x32]
def mi91 : V91 → Fr := fun x0 => [x0, .tup [], .tup [], .tup [], .tup [], .tup [], .tup [], .tup [], .tup [], .tup [], .tup [], .tup [], .tup [], .tup [], .tup [], .tup [], .tup [], .tup [], .tup [], .tup [], .tup [], .tup [], .tup [], .tup [], .tup [], .tup [], .tup [], .tup [], .tup [], .tup [], .tup [], .tup [], .tup []]
noncomputable def S91r0 {R : Type} (call : Nat → List AV → M AV) : V91 → Nat → AS → (W91 → AS → Option R) → Option R := fun x0 base s k =>
  k (.mk x0 .top .top .top .top .top .top .top) s
noncomputable def S91r1 {R : Type} (call : Nat → List AV → M AV) : W91 → Nat → AS → (W91 → AS → Option R) → Option R := @W91.rec (fun _ => Nat → AS → (W91 → AS → Option R) → Option R) fun x0 x2 x3 x4 x7 x13 x19 x32 base s k =>
  bndO (call 110 [x0] s) fun y0 s =>
  bndP (notA y0) fun y1 =>
  k (.mk x0 .top .top .top y1 .top .top .top) s
noncomputable def S91r2 {R : Type} (call : Nat → List AV → M AV) : W91 → Nat → AS → (W91 → AS → Option R) → Option R := @W91.rec (fun _ => Nat → AS → (W91 → AS → Option R) → Option R) fun x0 x2 x3 x4 x7 x13 x19 x32 base s k =>
  k (.mk .top ((.bool false) : AV) .top .top .top .top .top .top) s
noncomputable def S91r3 {R : Type} (call : Nat → List AV → M AV) : W91 → Nat → AS → (W91 → AS → Option R) → Option R := @W91.rec (fun _ => Nat → AS → (W91 → AS → Option R) → Option R) fun x0 x2 x3 x4 x7 x13 x19 x32 base s k =>
  bndO (quietQ call 89 [x0, ((.str [43]) : AV)] s) fun y0 s =>
  bndO (gd (wantG y0 false) (fun s => (pureO (some x0) s)) s) fun y1 s =>
  bndO (gd (wantG y0 false) (fun s => (quietQ call 89 [y1, ((.str [45]) : AV)] s)) s) fun y2 s =>
  bndP (pickA y0 ((.bool true) : AV) y2) fun y3 =>
  k (.mk x0 .top .top .top .top y3 .top .top) s
noncomputable def S91r4 {R : Type} (call : Nat → List AV → M AV) : W91 → Nat → AS → (W91 → AS → Option R) → Option R := @W91.rec (fun _ => Nat → AS → (W91 → AS → Option R) → Option R) fun x0 x2 x3 x4 x7 x13 x19 x32 base s k =>
  bndO (quietQ call 87 [x0] s) fun y0 s =>
  bndP (partQ false 1 1 y0) fun y1 =>
  k (.mk x0 .top ((.int .i64 3) : AV) y1 .top .top .top .top) s
noncomputable def S91r5 {R : Type} (call : Nat → List AV → M AV) : W91 → Nat → AS → (W91 → AS → Option R) → Option R := @W91.rec (fun _ => Nat → AS → (W91 → AS → Option R) → Option R) fun x0 x2 x3 x4 x7 x13 x19 x32 base s k =>
  bndO (call 60 [x0, ((.str [43]) : AV)] s) fun y0 s =>
  bndP (notA y0) fun y1 =>
  k (.mk x0 .top x3 x4 .top .top y1 .top) s
noncomputable def S91r6 {R : Type} (call : Nat → List AV → M AV) : W91 → Nat → AS → (W91 → AS → Option R) → Option R := @W91.rec (fun _ => Nat → AS → (W91 → AS → Option R) → Option R) fun x0 x2 x3 x4 x7 x13 x19 x32 base s k =>
  k (.mk x0 .top ((.int .i64 4) : AV) x4 .top .top .top .top) s
noncomputable def S91r7 {R : Type} (call : Nat → List AV → M AV) : W91 → Nat → AS → (W91 → AS → Option R) → Option R := @W91.rec (fun _ => Nat → AS → (W91 → AS → Option R) → Option R) fun x0 x2 x3 x4 x7 x13 x19 x32 base s k =>
  bndO (call 60 [x0, ((.str [45]) : AV)] s) fun y0 s =>
  k (.mk x0 .top x3 x4 .top .top .top .top) s
noncomputable def S91r8 {R : Type} (call : Nat → List AV → M AV) : W91 → Nat → AS → (W91 → AS → Option R) → Option R := @W91.rec (fun _ => Nat → AS → (W91 → AS → Option R) → Option R) fun x0 x2 x3 x4 x7 x13 x19 x32 base s k =>
  bndO (call 110 [x0] s) fun y0 s =>
  bndP (notA y0) fun y1 =>
  bndO (gd (wantG y1 false) (fun s => (pureO (some x0) s)) s) fun y2 s =>
  bndO (gd (wantG y1 false) (fun s => (pureO (some x3) s)) s) fun y3 s =>
  bndO (gd (wantG y1 false) (fun s => (pureO (buildA [(.int .i64 0), (.str []), (.str [])] [(0, 1, y3)]) s)) s) fun y4 s =>
  bndO (gd (wantG y1 false) (fun s => (pureO (some x4) s)) s) fun y5 s =>
  bndO (gd (wantG y1 false) (fun s => (call 111 [y2, y4, y5] s)) s) fun y6 s =>
  bndO (gd (wantG y1 false) (fun s => (pureO (notA y6) s)) s) fun y7 s =>
  bndP (pickA y1 ((.bool true) : AV) y7) fun y8 =>
  k (.mk x0 .top .top .top .top .top .top y8) s
noncomputable def S91r9 {R : Type} (call : Nat → List AV → M AV) : W91 → Nat → AS → (W91 → AS → Option R) → Option R := @W91.rec (fun _ => Nat → AS → (W91 → AS → Option R) → Option R) fun x0 x2 x3 x4 x7 x13 x19 x32 base s k =>
  k (.mk .top ((.bool false) : AV) .top .top .top .top .top .top) s
noncomputable def S91b10 {R : Type} (call : Nat → List AV → M AV) (fuel : Nat) : SC W91 W91 R := sSeq (sSeq (sReg 6 (S91r3 call)) (sCond (@W91.rec (fun _ => AV) fun _ _ _ _ _ x13 _ _ => x13) (sSkip) (sExit 0))) (sBlock 1 (sSeq (sReg 5 (S91r4 call)) (sSeq (sSeq (sReg 3 (S91r5 call)) (sCond (@W91.rec (fun _ => AV) fun _ _ _ _ _ _ x19 _ => x19) (sSeq (sReg 1 (S91r6 call)) (sReg 2 (S91r7 call))) (sSkip))) (sSeq (sReg 11 (S91r8 call)) (sCond (@W91.rec (fun _ => AV) fun _ _ _ _ _ _ _ x32 => x32) (sSeq (sReg 1 (S91r9 call)) (sRet)) (sSkip))))))
noncomputable def S91r11 {R : Type} (call : Nat → List AV → M AV) : W91 → Nat → AS → (W91 → AS → Option R) → Option R := @W91.rec (fun _ => Nat → AS → (W91 → AS → Option R) → Option R) fun x0 x2 x3 x4 x7 x13 x19 x32 base s k =>
  k (.mk .top ((.bool true) : AV) .top .top .top .top .top .top) s
noncomputable def S91c {R : Type} (call : Nat → List AV → M AV) (fuel : Nat) : SC V91 W91 R := sSeq (sReg 1 (S91r0 call)) (sSeq (sSeq (sReg 3 (S91r1 call)) (sCond (@W91.rec (fun _ => AV) fun _ _ _ _ x7 _ _ _ => x7) (sSeq (sReg 1 (S91r2 call)) (sRet)) (sSkip))) (sSeq (sBlock 0 (sLoop fuel (S91b10 call fuel))) (sSeq (sReg 1 (S91r11 call)) (sRet))))
noncomputable def S91e : Ex → W91 → AS → Option (AV × AS) := fun e w s => (@W91.rec (fun _ => Option (AV × AS)) fun _ x2 _ _ _ _ _ _ => @Ex.rec (fun _ => Option (AV × AS)) (some (x2, s)) (fun _ => none) (some (x2, s)) e) w
noncomputable def S91 (call : Nat → List AV → M AV) (fuel : Nat) (args : List AV) (s : AS) : Option (AV × AS) := match args with
  | [x0] => S91c call fuel x0 s S91e
  | _ => none
theorem S91_sim (call : Nat → List AV → M AV) (fuel : Nat) : Sim (R := AV × AS) call fuel mi91 mo91 A91.code (S91c call fuel) := by
  refine sim_seq (sim_reg (fun x0 _ _ _ => by kernel_rfl)) (sim_seq (sim_seq (sim_reg (fun ⟨x0, x2, x3, x4, x7, x13, x19, x32⟩ _ _ _ => by kernel_rfl)) (sim_cond (fun ⟨x0, x2, x3, x4, x7, x13, x19, x32⟩ => by kernel_rfl) (sim_seq (sim_reg (fun ⟨x0, x2, x3, x4, x7, x13, x19, x32⟩ _ _ _ => by kernel_rfl)) (sim_ret)) (sim_skip))) (sim_seq (sim_block (sim_loop (sim_seq (sim_seq (sim_reg (fun ⟨x0, x2, x3, x4, x7, x13, x19, x32⟩ _ _ _ => by kernel_rfl)) (sim_cond (fun ⟨x0, x2, x3, x4, x7, x13, x19, x32⟩ => by kernel_rfl) (sim_skip) (sim_exit))) (sim_block (sim_seq (sim_reg (fun ⟨x0, x2, x3, x4, x7, x13, x19, x32⟩ _ _ _ => by kernel_rfl)) (sim_seq (sim_seq (sim_reg (fun ⟨x0, x2, x3, x4, x7, x13, x19, x32⟩ _ _ _ => by kernel_rfl)) (sim_cond (fun ⟨x0, x2, x3, x4, x7, x13, x19, x32⟩ => by kernel_rfl) (sim_seq (sim_reg (fun ⟨x0, x2, x3, x4, x7, x13, x19, x32⟩ _ _ _ => by kernel_rfl)) (sim_reg (fun ⟨x0, x2, x3, x4, x7, x13, x19, x32⟩ _ _ _ => by kernel_rfl))) (sim_skip))) (sim_seq (sim_reg (fun ⟨x0, x2, x3, x4, x7, x13, x19, x32⟩ _ _ _ => by kernel_rfl)) (sim_cond (fun ⟨x0, x2, x3, x4, x7, x13, x19, x32⟩ => by kernel_rfl) (sim_seq (sim_reg (fun ⟨x0, x2, x3, x4, x7, x13, x19, x32⟩ _ _ _ => by kernel_rfl)) (sim_ret)) (sim_skip))))))))) (sim_seq (sim_reg (fun ⟨x0, x2, x3, x4, x7, x13, x19, x32⟩ _ _ _ => by kernel_rfl)) (sim_ret))))
theorem S91_ok (call : Nat → List AV → M AV) (fuel : Nat) (args : List AV) (s : AS) : afn call fuel A91 args s = S91 call fuel args s := by
  rcases args with _ | ⟨x0, _ | ⟨x1, r⟩⟩
  · kernel_rfl
  · exact (afn_sim (S91_sim call fuel) (v := x0) (e2 := S91e) (by kernel_rfl) (by kernel_rfl) (fun e w s => by cases w; cases e <;> kernel_rfl)).trans (by kernel_rfl)
  · kernel_rfl
def A92 : AFn := { nargs := 2, ntmps := 44, res := [.tmp 4], code := .seq (.ops [⟨0, (some 4), none, .p (.mv (.const (.bool false))), []⟩] 1 [0, 1]) (.seq (.seq (.ops [⟨0, (some 5), none, .p (.mv (.const (.bool true))), []⟩] 1 [0, 1, 5]) (.block 0 (.loop (.seq (.seq (.ops [⟨0, (some 7), none, .p (.mv (.tmp 5)), []⟩] 1 [0, 1, 7]) (.cond (.tmp 7) (.skip) (.exit 0))) (.seq (.block 1 (.seq (.ops [⟨0, (some 6), none, .l (.alloc [.str [], .str [], .str []]), []⟩] 1 [0, 1, 6]) (.seq (.seq (.ops [⟨0, (some 10), none, .p (.mv (.tmp 0)), []⟩, ⟨1, (some 11), none, .p (.mv (.tmp 1)), []⟩, ⟨2, (some 12), none, .p (.nilchk (.tmp 11)), []⟩, ⟨3, (some 13), none, .p (.fld 1 (.tmp 12)), []⟩, ⟨4, (some 14), none, .r (.load false 1 (.tmp 13)), []⟩, ⟨5, (some 15), none, .p (.lenS false (.tmp 14)), []⟩, ⟨6, (some 16), none, .e (.call false 56 [.tmp 10, .tmp 15, .const (.int .i64 50)]), []⟩, ⟨7, (some 17), none, .p (.notb (.tmp 16)), []⟩, ⟨8, (some 18), none, .p (.mv (.tmp 17)), []⟩, ⟨9, (some 19), (some (18, false)), .p (.mv (.tmp 0)), []⟩, ⟨10, (some 20), (some (18, false)), .p (.fld 0 (.tmp 6)), []⟩, ⟨11, (some 21), (some (18, false)), .e (.call false 59 [.tmp 19, .tmp 20]), []⟩, ⟨12, (some 22), (some (18, false)), .p (.notb (.tmp 21)), []⟩, ⟨13, (some 23), none, .p (.pick (.tmp 18) (.const (.bool true)) (.tmp 22)), []⟩, ⟨14, (some 24), none, .p (.mv (.tmp 23)), []⟩, ⟨15, (some 25), (some (24, false)), .p (.mv (.tmp 0)), []⟩, ⟨16, (some 26), (some (24, false)), .e (.call false 60 [.tmp 25, .const (.str [35])]), []⟩, ⟨17, (some 27), (some (24, false)), .p (.mv (.tmp 26)), []⟩, ⟨18, (some 28), (some (27, true)), .p (.mv (.tmp 0)), []⟩, ⟨19, (some 29), (some (27, true)), .p (.fld 2 (.tmp 6)), []⟩, ⟨20, (some 30), (some (27, true)), .e (.call false 59 [.tmp 28, .tmp 29]), []⟩, ⟨21, (some 31), (some (27, true)), .p (.notb (.tmp 30)), []⟩, ⟨22, (some 32), (some (24, false)), .p (.pick (.tmp 27) (.tmp 31) (.const (.bool false))), []⟩, ⟨23, (some 33), none, .p (.pick (.tmp 24) (.const (.bool true)) (.tmp 32)), []⟩] 24 [0, 1, 6, 33]) (.cond (.tmp 33) (.seq (.ops [⟨0, (some 4), none, .p (.mv (.const (.bool false))), []⟩] 1 [4]) (.ret)) (.skip))) (.ops [⟨0, (some 34), none, .p (.mv (.tmp 1)), []⟩, ⟨1, (some 35), none, .p (.mv (.tmp 1)), []⟩, ⟨2, (some 36), none, .p (.nilchk (.tmp 35)), []⟩, ⟨3, (some 37), none, .p (.fld 1 (.tmp 36)), []⟩, ⟨4, (some 38), none, .r (.load false 1 (.tmp 37)), []⟩, ⟨5, (some 39), none, .r (.load true 3 (.tmp 6)), []⟩, ⟨6, (some 40), none, .k { z := [.str [], .str [], .str []], len := 1, parts := [(0, .tmp 39)] }, []⟩, ⟨7, (some 41), none, .e (.append 3 48 (.tmp 38) (.tmp 40)), []⟩, ⟨8, (some 42), none, .p (.nilchk (.tmp 34)), []⟩, ⟨9, (some 43), none, .p (.fld 1 (.tmp 42)), []⟩, ⟨10, none, none, .e (.store (.tmp 43) (.tmp 41) 1), []⟩] 11 [0, 1])))) (.ops [⟨0, (some 8), none, .p (.mv (.tmp 0)), []⟩, ⟨1, (some 9), none, .e (.call false 60 [.tmp 8, .const (.str [124])]), []⟩, ⟨2, (some 5), none, .p (.mv (.tmp 9)), []⟩] 3 [0, 1, 5])))))) (.seq (.ops [⟨0, (some 4), none, .p (.mv (.const (.bool true))), []⟩] 1 [4]) (.ret))) }
def N92 : Notes := { note := fun | 7 => some ⟨[0, 1, 2, 3, 4, 5, 6, 7, 8, 9, 10], [0, 0, 2, 6, 14, 0, 32, 126, 255, 511, 1023], [[], [], [], [], [], [], [], [], [], [], []]⟩ | _ => none, keep := fun | 8 => [4] | 3 => [0, 1, 5] | 7 => [0, 1] | 6 => [4] | 5 => [0, 1, 6, 33] | 4 => [0, 1, 6] | 2 => [0, 1, 7] | 1 => [0, 1, 5] | 0 => [0, 1] | _ => [] }
theorem A92_ok : cFn Try.prog qf N92 Try.f92 = some A92 := by kernel_rfl
inductive W92 where
  | mk (x0 x1 x4 x5 x6 x7 x33 : AV)
inductive V92 where
  | mk (x0 x1 : AV)
def mo92 : W92 → Fr := fun ⟨x0, x1, x4, x5, x6, x7, x33⟩ => [x0, x1, .top, .top, x4, x5, x6, x7, .top, .top, .top, .top, .top, .top, .top, .top, .top, .top, .top, .top, .top, .top, .top, .top, .top, .top, .top, .top, .top, .top, .top, .top, .top, x33, .top, .top, .top, .top, .top, .top, .top, .top, .top, .top]
def mi92 : V92 → Fr := fun ⟨x0, x1⟩ => [x0, x1, .tup [], .tup [], .tup [], .tup [], .tup [], .tup [], .tup [], .tup [], .tup [], .tup [], .tup [], .tup [], .tup [], .tup [], .tup [], .tup [], .tup [], .tup [], .tup [], .tup [], .tup [], .tup [], .tup [], .tup [], .tup [], .tup [], .tup [], .tup [], .tup [], .tup [], .tup [], .tup [], .tup [], .tup [], .tup [], .tup [], .tup [], .tup [], .tup [], .tup [], .tup [], .tup []]
noncomputable def S92r0 {R : Type} (call : Nat → List AV → M AV) : V92 → Nat → AS → (W92 → AS → Option R) → Option R := @V92.rec (fun _ => Nat → AS → (W92 → AS → Option R) → Option R) fun x0 x1 base s k =>
  k (.mk x0 x1 .top .top .top .top .top) s
noncomputable def S92r1 {R : Type} (call : Nat → List AV → M AV) : W92 → Nat → AS → (W92 → AS → Option R) → Option R := @W92.rec (fun _ => Nat → AS → (W92 → AS → Option R) → Option R) fun x0 x1 x4 x5 x6 x7 x33 base s k =>
  k (.mk x0 x1 .top ((.bool true) : AV) .top .top .top) s
noncomputable def S92r2 {R : Type} (call : Nat → List AV → M AV) : W92 → Nat → AS → (W92 → AS → Option R) → Option R := @W92.rec (fun _ => Nat → AS → (W92 → AS → Option R) → Option R) fun x0 x1 x4 x5 x6 x7 x33 base s k =>
  k (.mk x0 x1 .top .top .top x5 .top) s
noncomputable def S92r3 {R : Type} (call : Nat → List AV → M AV) : W92 → Nat → AS → (W92 → AS → Option R) → Option R := @W92.rec (fun _ => Nat → AS → (W92 → AS → Option R) → Option R) fun x0 x1 x4 x5 x6 x7 x33 base s k =>
  bndO (newQ (base + 0) (allocB [(.str []), (.str []), (.str [])] (base + 0)) s) fun y0 s =>
  k (.mk x0 x1 .top .top y0 .top .top) s
noncomputable def S92r4 {R : Type} (call : Nat → List AV → M AV) : W92 → Nat → AS → (W92 → AS → Option R) → Option R := @W92.rec (fun _ => Nat → AS → (W92 → AS → Option R) → Option R) fun x0 x1 x4 x5 x6 x7 x33 base s k =>
  bndP (nilchkA x1) fun y0 =>
  bndP (fldA 1 y0) fun y1 =>
  bndP (loadQ false 1 y1 s.h) fun y2 =>
  bndP (lenAQ false y2) fun y3 =>
  bndO (call 56 [x0, y3, ((.int .i64 50) : AV)] s) fun y4 s =>
  bndP (notA y4) fun y5 =>
  bndO (gd (wantG y5 false) (fun s => (pureO (some x0) s)) s) fun y6 s =>
  bndO (gd (wantG y5 false) (fun s => (pureO (fldA 0 x6) s)) s) fun y7 s =>
  bndO (gd (wantG y5 false) (fun s => (call 59 [y6, y7] s)) s) fun y8 s =>
  bndO (gd (wantG y5 false) (fun s => (pureO (notA y8) s)) s) fun y9 s =>
  bndP (pickA y5 ((.bool true) : AV) y9) fun y10 =>
  bndO (gd (wantG y10 false) (fun s => (pureO (some x0) s)) s) fun y11 s =>
  bndO (gd (wantG y10 false) (fun s => (call 60 [y11, ((.str [35]) : AV)] s)) s) fun y12 s =>
  bndO (gd (wantG y10 false) (fun s => (pureO (some y12) s)) s) fun y13 s =>
  bndO (gd (wantG y13 true) (fun s => (pureO (some x0) s)) s) fun y14 s =>
  bndO (gd (wantG y13 true) (fun s => (pureO (fldA 2 x6) s)) s) fun y15 s =>
  bndO (gd (wantG y13 true) (fun s => (call 59 [y14, y15] s)) s) fun y16 s =>
  bndO (gd (wantG y13 true) (fun s => (pureO (notA y16) s)) s) fun y17 s =>
  bndO (gd (wantG y10 false) (fun s => (pureO (pickA y13 y17 ((.bool false) : AV)) s)) s) fun y18 s =>
  bndP (pickA y10 ((.bool true) : AV) y18) fun y19 =>
  k (.mk x0 x1 .top .top x6 .top y19) s
noncomputable def S92r5 {R : Type} (call : Nat → List AV → M AV) : W92 → Nat → AS → (W92 → AS → Option R) → Option R := @W92.rec (fun _ => Nat → AS → (W92 → AS → Option R) → Option R) fun x0 x1 x4 x5 x6 x7 x33 base s k =>
  k (.mk .top .top ((.bool false) : AV) .top .top .top .top) s
noncomputable def S92r6 {R : Type} (call : Nat → List AV → M AV) : W92 → Nat → AS → (W92 → AS → Option R) → Option R := @W92.rec (fun _ => Nat → AS → (W92 → AS → Option R) → Option R) fun x0 x1 x4 x5 x6 x7 x33 base s k =>
  bndP (nilchkA x1) fun y0 =>
  bndP (fldA 1 y0) fun y1 =>
  bndP (loadQ false 1 y1 s.h) fun y2 =>
  bndP (loadQ true 3 x6 s.h) fun y3 =>
  bndP (rowsA [(.str []), (.str []), (.str [])] 1 [(0, y3)]) fun y4 =>
  bndO (appQ (base + 7) 3 48 y2 y4 s) fun y5 s =>
  bndP (nilchkA x1) fun y6 =>
  bndP (fldA 1 y6) fun y7 =>
  bndO (storeQ y7 y5 1 s) fun _ s =>
  k (.mk x0 x1 .top .top .top .top .top) s
noncomputable def S92r7 {R : Type} (call : Nat → List AV → M AV) : W92 → Nat → AS → (W92 → AS → Option R) → Option R := @W92.rec (fun _ => Nat → AS → (W92 → AS → Option R) → Option R) fun x0 x1 x4 x5 x6 x7 x33 base s k =>
  bndO (call 60 [x0, ((.str [124]) : AV)] s) fun y0 s =>
  k (.mk x0 x1 .top y0 .top .top .top) s
noncomputable def S92b8 {R : Type} (call : Nat → List AV → M AV) (fuel : Nat) : SC W92 W92 R := sSeq (sSeq (sReg 1 (S92r2 call)) (sCond (@W92.rec (fun _ => AV) fun _ _ _ _ _ x7 _ => x7) (sSkip) (sExit 0))) (sSeq (sBlock 1 (sSeq (sReg 1 (S92r3 call)) (sSeq (sSeq (sReg 24 (S92r4 call)) (sCond (@W92.rec (fun _ => AV) fun _ _ _ _ _ _ x33 => x33) (sSeq (sReg 1 (S92r5 call)) (sRet)) (sSkip))) (sReg 11 (S92r6 call))))) (sReg 3 (S92r7 call)))
noncomputable def S92r9 {R : Type} (call : Nat → List AV → M AV) : W92 → Nat → AS → (W92 → AS → Option R) → Option R := @W92.rec (fun _ => Nat → AS → (W92 → AS → Option R) → Option R) fun x0 x1 x4 x5 x6 x7 x33 base s k =>
  k (.mk .top .top ((.bool true) : AV) .top .top .top .top) s
noncomputable def S92c {R : Type} (call : Nat → List AV → M AV) (fuel : Nat) : SC V92 W92 R := sSeq (sReg 1 (S92r0 call)) (sSeq (sSeq (sReg 1 (S92r1 call)) (sBlock 0 (sLoop fuel (S92b8 call fuel)))) (sSeq (sReg 1 (S92r9 call)) (sRet)))
noncomputable def S92e : Ex → W92 → AS → Option (AV × AS) := fun e w s => (@W92.rec (fun _ => Option (AV × AS)) fun _ _ x4 _ _ _ _ => @Ex.rec (fun _ => Option (AV × AS)) (some (x4, s)) (fun _ => none) (some (x4, s)) e) w
noncomputable def S92 (call : Nat → List AV → M AV) (fuel : Nat) (args : List AV) (s : AS) : Option (AV × AS) := match args with
  | [x0, x1] => S92c call fuel (.mk x0 x1) s S92e
  | _ => none
theorem S92_sim (call : Nat → List AV → M AV) (fuel : Nat) : Sim (R := AV × AS) call fuel mi92 mo92 A92.code (S92c call fuel) := by
  refine sim_seq (sim_reg (fun ⟨x0, x1⟩ _ _ _ => by kernel_rfl)) (sim_seq (sim_seq (sim_reg (fun ⟨x0, x1, x4, x5, x6, x7, x33⟩ _ _ _ => by kernel_rfl)) (sim_block (sim_loop (sim_seq (sim_seq (sim_reg (fun ⟨x0, x1, x4, x5, x6, x7, x33⟩ _ _ _ => by kernel_rfl)) (sim_cond (fun ⟨x0, x1, x4, x5, x6, x7, x33⟩ => by kernel_rfl) (sim_skip) (sim_exit))) (sim_seq (sim_block (sim_seq (sim_reg (fun ⟨x0, x1, x4, x5, x6, x7, x33⟩ _ _ _ => by kernel_rfl)) (sim_seq (sim_seq (sim_reg (fun ⟨x0, x1, x4, x5, x6, x7, x33⟩ _ _ _ => by kernel_rfl)) (sim_cond (fun ⟨x0, x1, x4, x5, x6, x7, x33⟩ => by kernel_rfl) (sim_seq (sim_reg (fun ⟨x0, x1, x4, x5, x6, x7, x33⟩ _ _ _ => by kernel_rfl)) (sim_ret)) (sim_skip))) (sim_reg (fun ⟨x0, x1, x4, x5, x6, x7, x33⟩ _ _ _ => by kernel_rfl))))) (sim_reg (fun ⟨x0, x1, x4, x5, x6, x7, x33⟩ _ _ _ => by kernel_rfl))))))) (sim_seq (sim_reg (fun ⟨x0, x1, x4, x5, x6, x7, x33⟩ _ _ _ => by kernel_rfl)) (sim_ret)))
theorem S92_ok (call : Nat → List AV → M AV) (fuel : Nat) (args : List AV) (s : AS) : afn call fuel A92 args s = S92 call fuel args s := by
  rcases args with _ | ⟨x0, _ | ⟨x1, _ | ⟨x2, r⟩⟩⟩
  · kernel_rfl
  · kernel_rfl
  · exact (afn_sim (S92_sim call fuel) (v := (.mk x0 x1)) (e2 := S92e) (by kernel_rfl) (by kernel_rfl) (fun e w s => by cases w; cases e <;> kernel_rfl)).trans (by kernel_rfl)
  · kernel_rfl
def A93 : AFn := { nargs := 2, ntmps := 26, res := [.tmp 4], code := .seq (.ops [⟨0, (some 4), none, .p (.mv (.const (.bool false))), []⟩] 1 [0, 1]) (.seq (.seq (.ops [⟨0, (some 6), none, .p (.mv (.tmp 0)), []⟩, ⟨1, (some 7), none, .p (.lenS false (.tmp 6)), []⟩, ⟨2, (some 8), none, .p (.mv (.tmp 1)), []⟩, ⟨3, (some 9), none, .p (.lenS false (.tmp 8)), []⟩, ⟨4, (some 10), none, .p (.bin .neq (.tmp 7) (.tmp 9)), []⟩] 5 [0, 1, 10]) (.cond (.tmp 10) (.seq (.ops [⟨0, (some 4), none, .p (.mv (.const (.bool false))), []⟩] 1 [4]) (.ret)) (.skip))) (.seq (.seq (.ops [⟨0, (some 11), none, .p (.mv (.tmp 0)), []⟩, ⟨1, (some 12), none, .p (.lenS false (.tmp 11)), []⟩, ⟨2, (some 13), none, .p (.mv (.const (.int .i64 0))), []⟩] 3 [0, 1, 12, 13]) (.block 0 (.loop (.seq (.ops [⟨0, (some 14), none, .p (.bin .lss (.tmp 13) (.tmp 12)), []⟩] 1 [0, 1, 12, 13, 14]) (.seq (.cond (.tmp 14) (.skip) (.exit 0)) (.seq (.block 1 (.seq (.ops [⟨0, (some 15), none, .p (.mv (.tmp 13)), []⟩, ⟨1, (some 5), none, .p (.mv (.tmp 15)), []⟩] 2 [0, 1, 5, 12, 13]) (.seq (.ops [⟨0, (some 16), none, .p (.mv (.tmp 0)), []⟩, ⟨1, (some 17), none, .p (.mv (.tmp 5)), []⟩, ⟨2, (some 18), none, .p (.idx 3 (.tmp 16) (.tmp 17)), []⟩, ⟨4, (some 20), none, .p (.mv (.tmp 1)), []⟩, ⟨5, (some 21), none, .p (.mv (.tmp 5)), []⟩, ⟨6, (some 22), none, .p (.idx 3 (.tmp 20) (.tmp 21)), []⟩, ⟨3, (some 19), none, .r (.load true 3 (.tmp 18)), []⟩, ⟨7, (some 23), none, .r (.load true 3 (.tmp 22)), []⟩, ⟨8, (some 24), none, .p (.eqs true [true, true, true] (.tmp 19) (.tmp 23)), []⟩] 9 [0, 1, 12, 13, 24]) (.cond (.tmp 24) (.seq (.ops [⟨0, (some 4), none, .p (.mv (.const (.bool false))), []⟩] 1 [4]) (.ret)) (.skip))))) (.ops [⟨0, (some 25), none, .p (.bin .add (.tmp 13) (.const (.int .i64 1))), []⟩, ⟨1, (some 13), none, .p (.mv (.tmp 25)), []⟩] 2 [0, 1, 12, 13]))))))) (.seq (.ops [⟨0, (some 4), none, .p (.mv (.const (.bool true))), []⟩] 1 [4]) (.ret)))) }
def N93 : Notes := { note := fun | 6 => some ⟨[0, 1, 2, 4, 5, 6, 3, 7, 8], [0, 0, 3, 7, 0, 0, 48, 112, 255], [[], [], [], [], [], [], [], [], []]⟩ | _ => none, keep := fun | 9 => [4] | 8 => [0, 1, 12, 13] | 7 => [4] | 6 => [0, 1, 12, 13, 24] | 5 => [0, 1, 5, 12, 13] | 4 => [0, 1, 12, 13, 14] | 3 => [0, 1, 12, 13] | 2 => [4] | 1 => [0, 1, 10] | 0 => [0, 1] | _ => [] }
theorem A93_ok : cFn Try.prog qf N93 Try.f93 = some A93 := by kernel_rfl
inductive W93 where
  | mk (x0 x1 x4 x5 x10 x12 x13 x14 x24 : AV)
inductive V93 where
  | mk (x0 x1 : AV)
def mo93 : W93 → Fr := fun ⟨x0, x1, x4, x5, x10, x12, x13, x14, x24⟩ => [x0, x1, .top, .top, x4, x5, .top, .top, .top, .top, x10, .top, x12, x13, x14, .top, .top, .top, .top, .top, .top, .top, .top, .top, x24, .top]
def mi93 : V93 → Fr := fun ⟨x0, x1⟩ => [x0, x1, .tup [], .tup [], .tup [], .tup [], .tup [], .tup [], .tup [], .tup [], .tup [], .tup [], .tup [], .tup [], .tup [], .tup [], .tup [], .tup [], .tup [], .tup [], .tup [], .tup [], .tup [], .tup [], .tup [], .tup []]
noncomputable def S93r0 {R : Type} (call : Nat → List AV → M AV) : V93 → Nat → AS → (W93 → AS → Option R) → Option R := @V93.rec (fun _ => Nat → AS → (W93 → AS → Option R) → Option R) fun x0 x1 base s k =>
  k (.mk x0 x1 .top .top .top .top .top .top .top) s
noncomputable def S93r1 {R : Type} (call : Nat → List AV → M AV) : W93 → Nat → AS → (W93 → AS → Option R) → Option R := @W93.rec (fun _ => Nat → AS → (W93 → AS → Option R) → Option R) fun x0 x1 x4 x5 x10 x12 x13 x14 x24 base s k =>
  bndP (lenAQ false x0) fun y0 =>
  bndP (lenAQ false x1) fun y1 =>
  bndP (binQ .neq y0 y1) fun y2 =>
  k (.mk x0 x1 .top .top y2 .top .top .top .top) s
noncomputable def S93r2 {R : Type} (call : Nat → List AV → M AV) : W93 → Nat → AS → (W93 → AS → Option R) → Option R := @W93.rec (fun _ => Nat → AS → (W93 → AS → Option R) → Option R) fun x0 x1 x4 x5 x10 x12 x13 x14 x24 base s k =>
  k (.mk .top .top ((.bool false) : AV) .top .top .top .top .top .top) s
noncomputable def S93r3 {R : Type} (call : Nat → List AV → M AV) : W93 → Nat → AS → (W93 → AS → Option R) → Option R := @W93.rec (fun _ => Nat → AS → (W93 → AS → Option R) → Option R) fun x0 x1 x4 x5 x10 x12 x13 x14 x24 base s k =>
  bndP (lenAQ false x0) fun y0 =>
  k (.mk x0 x1 .top .top .top y0 ((.int .i64 0) : AV) .top .top) s
noncomputable def S93r4 {R : Type} (call : Nat → List AV → M AV) : W93 → Nat → AS → (W93 → AS → Option R) → Option R := @W93.rec (fun _ => Nat → AS → (W93 → AS → Option R) → Option R) fun x0 x1 x4 x5 x10 x12 x13 x14 x24 base s k =>
  bndP (binQ .lss x13 x12) fun y0 =>
  k (.mk x0 x1 .top .top .top x12 x13 y0 .top) s
noncomputable def S93r5 {R : Type} (call : Nat → List AV → M AV) : W93 → Nat → AS → (W93 → AS → Option R) → Option R := @W93.rec (fun _ => Nat → AS → (W93 → AS → Option R) → Option R) fun x0 x1 x4 x5 x10 x12 x13 x14 x24 base s k =>
  k (.mk x0 x1 .top x13 .top x12 x13 .top .top) s
noncomputable def S93r6 {R : Type} (call : Nat → List AV → M AV) : W93 → Nat → AS → (W93 → AS → Option R) → Option R := @W93.rec (fun _ => Nat → AS → (W93 → AS → Option R) → Option R) fun x0 x1 x4 x5 x10 x12 x13 x14 x24 base s k =>
  bndP (idxQ 3 x0 x5) fun y0 =>
  bndP (idxQ 3 x1 x5) fun y1 =>
  bndP (loadQ true 3 y0 s.h) fun y2 =>
  bndP (loadQ true 3 y1 s.h) fun y3 =>
  bndP (eqsA true [true, true, true] y2 y3) fun y4 =>
  k (.mk x0 x1 .top .top .top x12 x13 .top y4) s
noncomputable def S93r7 {R : Type} (call : Nat → List AV → M AV) : W93 → Nat → AS → (W93 → AS → Option R) → Option R := @W93.rec (fun _ => Nat → AS → (W93 → AS → Option R) → Option R) fun x0 x1 x4 x5 x10 x12 x13 x14 x24 base s k =>
  k (.mk .top .top ((.bool false) : AV) .top .top .top .top .top .top) s
noncomputable def S93r8 {R : Type} (call : Nat → List AV → M AV) : W93 → Nat → AS → (W93 → AS → Option R) → Option R := @W93.rec (fun _ => Nat → AS → (W93 → AS → Option R) → Option R) fun x0 x1 x4 x5 x10 x12 x13 x14 x24 base s k =>
  bndP (binQ .add x13 ((.int .i64 1) : AV)) fun y0 =>
  k (.mk x0 x1 .top .top .top x12 y0 .top .top) s
noncomputable def S93b9 {R : Type} (call : Nat → List AV → M AV) (fuel : Nat) : SC W93 W93 R := sSeq (sReg 1 (S93r4 call)) (sSeq (sCond (@W93.rec (fun _ => AV) fun _ _ _ _ _ _ _ x14 _ => x14) (sSkip) (sExit 0)) (sSeq (sBlock 1 (sSeq (sReg 2 (S93r5 call)) (sSeq (sReg 9 (S93r6 call)) (sCond (@W93.rec (fun _ => AV) fun _ _ _ _ _ _ _ _ x24 => x24) (sSeq (sReg 1 (S93r7 call)) (sRet)) (sSkip))))) (sReg 2 (S93r8 call))))
noncomputable def S93r10 {R : Type} (call : Nat → List AV → M AV) : W93 → Nat → AS → (W93 → AS → Option R) → Option R := @W93.rec (fun _ => Nat → AS → (W93 → AS → Option R) → Option R) fun x0 x1 x4 x5 x10 x12 x13 x14 x24 base s k =>
  k (.mk .top .top ((.bool true) : AV) .top .top .top .top .top .top) s
noncomputable def S93c {R : Type} (call : Nat → List AV → M AV) (fuel : Nat) : SC V93 W93 R := sSeq (sReg 1 (S93r0 call)) (sSeq (sSeq (sReg 5 (S93r1 call)) (sCond (@W93.rec (fun _ => AV) fun _ _ _ _ x10 _ _ _ _ => x10) (sSeq (sReg 1 (S93r2 call)) (sRet)) (sSkip))) (sSeq (sSeq (sReg 3 (S93r3 call)) (sBlock 0 (sLoop fuel (S93b9 call fuel)))) (sSeq (sReg 1 (S93r10 call)) (sRet))))
noncomputable def S93e : Ex → W93 → AS → Option (AV × AS) := fun e w s => (@W93.rec (fun _ => Option (AV × AS)) fun _ _ x4 _ _ _ _ _ _ => @Ex.rec (fun _ => Option (AV × AS)) (some (x4, s)) (fun _ => none) (some (x4, s)) e) w
noncomputable def S93 (call : Nat → List AV → M AV) (fuel : Nat) (args : List AV) (s : AS) : Option (AV × AS) := match args with
  | [x0, x1] => S93c call fuel (.mk x0 x1) s S93e
  | _ => none
theorem S93_sim (call : Nat → List AV → M AV) (fuel : Nat) : Sim (R := AV × AS) call fuel mi93 mo93 A93.code (S93c call fuel) := by
  refine sim_seq (sim_reg (fun ⟨x0, x1⟩ _ _ _ => by kernel_rfl)) (sim_seq (sim_seq (sim_reg (fun ⟨x0, x1, x4, x5, x10, x12, x13, x14, x24⟩ _ _ _ => by kernel_rfl)) (sim_cond (fun ⟨x0, x1, x4, x5, x10, x12, x13, x14, x24⟩ => by kernel_rfl) (sim_seq (sim_reg (fun ⟨x0, x1, x4, x5, x10, x12, x13, x14, x24⟩ _ _ _ => by kernel_rfl)) (sim_ret)) (sim_skip))) (sim_seq (sim_seq (sim_reg (fun ⟨x0, x1, x4, x5, x10, x12, x13, x14, x24⟩ _ _ _ => by kernel_rfl)) (sim_block (sim_loop (sim_seq (sim_reg (fun ⟨x0, x1, x4, x5, x10, x12, x13, x14, x24⟩ _ _ _ => by kernel_rfl)) (sim_seq (sim_cond (fun ⟨x0, x1, x4, x5, x10, x12, x13, x14, x24⟩ => by kernel_rfl) (sim_skip) (sim_exit)) (sim_seq (sim_block (sim_seq (sim_reg (fun ⟨x0, x1, x4, x5, x10, x12, x13, x14, x24⟩ _ _ _ => by kernel_rfl)) (sim_seq (sim_reg (fun ⟨x0, x1, x4, x5, x10, x12, x13, x14, x24⟩ _ _ _ => by kernel_rfl)) (sim_cond (fun ⟨x0, x1, x4, x5, x10, x12, x13, x14, x24⟩ => by kernel_rfl) (sim_seq (sim_reg (fun ⟨x0, x1, x4, x5, x10, x12, x13, x14, x24⟩ _ _ _ => by kernel_rfl)) (sim_ret)) (sim_skip))))) (sim_reg (fun ⟨x0, x1, x4, x5, x10, x12, x13, x14, x24⟩ _ _ _ => by kernel_rfl)))))))) (sim_seq (sim_reg (fun ⟨x0, x1, x4, x5, x10, x12, x13, x14, x24⟩ _ _ _ => by kernel_rfl)) (sim_ret))))
theorem S93_ok (call : Nat → List AV → M AV) (fuel : Nat) (args : List AV) (s : AS) : afn call fuel A93 args s = S93 call fuel args s := by
  rcases args with _ | ⟨x0, _ | ⟨x1, _ | ⟨x2, r⟩⟩⟩
  · kernel_rfl
  · kernel_rfl
  · exact (afn_sim (S93_sim call fuel) (v := (.mk x0 x1)) (e2 := S93e) (by kernel_rfl) (by kernel_rfl) (fun e w s => by cases w; cases e <;> kernel_rfl)).trans (by kernel_rfl)
  · kernel_rfl
def A94 : AFn := { nargs := 2, ntmps := 26, res := [.tmp 4], code := .seq (.ops [⟨0, (some 4), none, .p (.mv (.const (.bool false))), []⟩] 1 [0, 1]) (.seq (.seq (.ops [⟨0, (some 6), none, .p (.mv (.tmp 0)), []⟩, ⟨1, (some 7), none, .p (.lenS false (.tmp 6)), []⟩, ⟨2, (some 8), none, .p (.mv (.tmp 1)), []⟩, ⟨3, (some 9), none, .p (.lenS false (.tmp 8)), []⟩, ⟨4, (some 10), none, .p (.bin .neq (.tmp 7) (.tmp 9)), []⟩] 5 [0, 1, 10]) (.cond (.tmp 10) (.seq (.ops [⟨0, (some 4), none, .p (.mv (.const (.bool false))), []⟩] 1 [4]) (.ret)) (.skip))) (.seq (.seq (.ops [⟨0, (some 11), none, .p (.mv (.tmp 0)), []⟩, ⟨1, (some 12), none, .p (.lenS false (.tmp 11)), []⟩, ⟨2, (some 13), none, .p (.mv (.const (.int .i64 0))), []⟩] 3 [0, 1, 12, 13]) (.block 0 (.loop (.seq (.ops [⟨0, (some 14), none, .p (.bin .lss (.tmp 13) (.tmp 12)), []⟩] 1 [0, 1, 12, 13, 14]) (.seq (.cond (.tmp 14) (.skip) (.exit 0)) (.seq (.block 1 (.seq (.ops [⟨0, (some 15), none, .p (.mv (.tmp 13)), []⟩, ⟨1, (some 5), none, .p (.mv (.tmp 15)), []⟩] 2 [0, 1, 5, 12, 13]) (.seq (.ops [⟨0, (some 16), none, .p (.mv (.tmp 0)), []⟩, ⟨1, (some 17), none, .p (.mv (.tmp 5)), []⟩, ⟨2, (some 18), none, .p (.idx 3 (.tmp 16) (.tmp 17)), []⟩, ⟨4, (some 20), none, .p (.mv (.tmp 1)), []⟩, ⟨5, (some 21), none, .p (.mv (.tmp 5)), []⟩, ⟨6, (some 22), none, .p (.idx 3 (.tmp 20) (.tmp 21)), []⟩, ⟨3, (some 19), none, .r (.load true 3 (.tmp 18)), []⟩, ⟨7, (some 23), none, .r (.load true 3 (.tmp 22)), []⟩, ⟨8, (some 24), none, .p (.eqs true [false, true, true] (.tmp 19) (.tmp 23)), []⟩] 9 [0, 1, 12, 13, 24]) (.cond (.tmp 24) (.seq (.ops [⟨0, (some 4), none, .p (.mv (.const (.bool false))), []⟩] 1 [4]) (.ret)) (.skip))))) (.ops [⟨0, (some 25), none, .p (.bin .add (.tmp 13) (.const (.int .i64 1))), []⟩, ⟨1, (some 13), none, .p (.mv (.tmp 25)), []⟩] 2 [0, 1, 12, 13]))))))) (.seq (.ops [⟨0, (some 4), none, .p (.mv (.const (.bool true))), []⟩] 1 [4]) (.ret)))) }
def N94 : Notes := { note := fun | 6 => some ⟨[0, 1, 2, 4, 5, 6, 3, 7, 8], [0, 0, 3, 7, 0, 0, 48, 112, 255], [[], [], [], [], [], [], [], [], []]⟩ | _ => none, keep := fun | 9 => [4] | 8 => [0, 1, 12, 13] | 7 => [4] | 6 => [0, 1, 12, 13, 24] | 5 => [0, 1, 5, 12, 13] | 4 => [0, 1, 12, 13, 14] | 3 => [0, 1, 12, 13] | 2 => [4] | 1 => [0, 1, 10] | 0 => [0, 1] | _ => [] }
theorem A94_ok : cFn Try.prog qf N94 Try.f94 = some A94 := by kernel_rfl
inductive W94 where
  | mk (x0 x1 x4 x5 x10 x12 x13 x14 x24 : AV)
inductive V94 where
  | mk (x0 x1 : AV)
def mo94 : W94 → Fr := fun ⟨x0, x1, x4, x5, x10, x12, x13, x14, x24⟩ => [x0, x1, .top, .top, x4, x5, .top, .top, .top, .top, x10, .top, x12, x13, x14, .top, .top, .top, .top, .top, .top, .top, .top, .top, x24, .top]
def mi94 : V94 → Fr := fun ⟨x0, x1⟩ => [x0, x1, .tup [], .tup [], .tup [], .tup [], .tup [], .tup [], .tup [], .tup [], .tup [], .tup [], .tup [], .tup [], .tup [], .tup [], .tup [], .tup [], .tup [], .tup [], .tup [], .tup [], .tup [], .tup [], .tup [], .tup []]
noncomputable def S94r0 {R : Type} (call : Nat → List AV → M AV) : V94 → Nat → AS → (W94 → AS → Option R) → Option R := @V94.rec (fun _ => Nat → AS → (W94 → AS → Option R) → Option R) fun x0 x1 base s k =>
  k (.mk x0 x1 .top .top .top .top .top .top .top) s
noncomputable def S94r1 {R : Type} (call : Nat → List AV → M AV) : W94 → Nat → AS → (W94 → AS → Option R) → Option R := @W94.rec (fun _ => Nat → AS → (W94 → AS → Option R) → Option R) fun x0 x1 x4 x5 x10 x12 x13 x14 x24 base s k =>
  bndP (lenAQ false x0) fun y0 =>
  bndP (lenAQ false x1) fun y1 =>
  bndP (binQ .neq y0 y1) fun y2 =>
  k (.mk x0 x1 .top .top y2 .top .top .top .top) s
noncomputable def S94r2 {R : Type} (call : Nat → List AV → M AV) : W94 → Nat → AS → (W94 → AS → Option R) → Option R := @W94.rec (fun _ => Nat → AS → (W94 → AS → Option R) → Option R) fun x0 x1 x4 x5 x10 x12 x13 x14 x24 base s k =>
  k (.mk .top .top ((.bool false) : AV) .top .top .top .top .top .top) s
noncomputable def S94r3 {R : Type} (call : Nat → List AV → M AV) : W94 → Nat → AS → (W94 → AS → Option R) → Option R := @W94.rec (fun _ => Nat → AS → (W94 → AS → Option R) → Option R) fun x0 x1 x4 x5 x10 x12 x13 x14 x24 base s k =>
  bndP (lenAQ false x0) fun y0 =>
  k (.mk x0 x1 .top .top .top y0 ((.int .i64 0) : AV) .top .top) s
noncomputable def S94r4 {R : Type} (call : Nat → List AV → M AV) : W94 → Nat → AS → (W94 → AS → Option R) → Option R := @W94.rec (fun _ => Nat → AS → (W94 → AS → Option R) → Option R) fun x0 x1 x4 x5 x10 x12 x13 x14 x24 base s k =>
  bndP (binQ .lss x13 x12) fun y0 =>
  k (.mk x0 x1 .top .top .top x12 x13 y0 .top) s
noncomputable def S94r5 {R : Type} (call : Nat → List AV → M AV) : W94 → Nat → AS → (W94 → AS → Option R) → Option R := @W94.rec (fun _ => Nat → AS → (W94 → AS → Option R) → Option R) fun x0 x1 x4 x5 x10 x12 x13 x14 x24 base s k =>
  k (.mk x0 x1 .top x13 .top x12 x13 .top .top) s
noncomputable def S94r6 {R : Type} (call : Nat → List AV → M AV) : W94 → Nat → AS → (W94 → AS → Option R) → Option R := @W94.rec (fun _ => Nat → AS → (W94 → AS → Option R) → Option R) fun x0 x1 x4 x5 x10 x12 x13 x14 x24 base s k =>
  bndP (idxQ 3 x0 x5) fun y0 =>
  bndP (idxQ 3 x1 x5) fun y1 =>
  bndP (loadQ true 3 y0 s.h) fun y2 =>
  bndP (loadQ true 3 y1 s.h) fun y3 =>
  bndP (eqsA true [false, true, true] y2 y3) fun y4 =>
  k (.mk x0 x1 .top .top .top x12 x13 .top y4) s
noncomputable def S94r7 {R : Type} (call : Nat → List AV → M AV) : W94 → Nat → AS → (W94 → AS → Option R) → Option R := @W94.rec (fun _ => Nat → AS → (W94 → AS → Option R) → Option R) fun x0 x1 x4 x5 x10 x12 x13 x14 x24 base s k =>
  k (.mk .top .top ((.bool false) : AV) .top .top .top .top .top .top) s
noncomputable def S94r8 {R : Type} (call : Nat → List AV → M AV) : W94 → Nat → AS → (W94 → AS → Option R) → Option R := @W94.rec (fun _ => Nat → AS → (W94 → AS → Option R) → Option R) fun x0 x1 x4 x5 x10 x12 x13 x14 x24 base s k =>
  bndP (binQ .add x13 ((.int .i64 1) : AV)) fun y0 =>
  k (.mk x0 x1 .top .top .top x12 y0 .top .top) s
noncomputable def S94b9 {R : Type} (call : Nat → List AV → M AV) (fuel : Nat) : SC W94 W94 R := sSeq (sReg 1 (S94r4 call)) (sSeq (sCond (@W94.rec (fun _ => AV) fun _ _ _ _ _ _ _ x14 _ => x14) (sSkip) (sExit 0)) (sSeq (sBlock 1 (sSeq (sReg 2 (S94r5 call)) (sSeq (sReg 9 (S94r6 call)) (sCond (@W94.rec (fun _ => AV) fun _ _ _ _ _ _ _ _ x24 => x24) (sSeq (sReg 1 (S94r7 call)) (sRet)) (sSkip))))) (sReg 2 (S94r8 call))))
noncomputable def S94r10 {R : Type} (call : Nat → List AV → M AV) : W94 → Nat → AS → (W94 → AS → Option R) → Option R := @W94.rec (fun _ => Nat → AS → (W94 → AS → Option R) → Option R) fun x0 x1 x4 x5 x10 x12 x13 x14 x24 base s k =>
  k (.mk .top .top ((.bool true) : AV) .top .top .top .top .top .top) s
noncomputable def S94c {R : Type} (call : Nat → List AV → M AV) (fuel : Nat) : SC V94 W94 R := sSeq (sReg 1 (S94r0 call)) (sSeq (sSeq (sReg 5 (S94r1 call)) (sCond (@W94.rec (fun _ => AV) fun _ _ _ _ x10 _ _ _ _ => x10) (sSeq (sReg 1 (S94r2 call)) (sRet)) (sSkip))) (sSeq (sSeq (sReg 3 (S94r3 call)) (sBlock 0 (sLoop fuel (S94b9 call fuel)))) (sSeq (sReg 1 (S94r10 call)) (sRet))))
noncomputable def S94e : Ex → W94 → AS → Option (AV × AS) := fun e w s => (@W94.rec (fun _ => Option (AV × AS)) fun _ _ x4 _ _ _ _ _ _ => @Ex.rec (fun _ => Option (AV × AS)) (some (x4, s)) (fun _ => none) (some (x4, s)) e) w
noncomputable def S94 (call : Nat → List AV → M AV) (fuel : Nat) (args : List AV) (s : AS) : Option (AV × AS) := match args with
  | [x0, x1] => S94c call fuel (.mk x0 x1) s S94e
  | _ => none
theorem S94_sim (call : Nat → List AV → M AV) (fuel : Nat) : Sim (R := AV × AS) call fuel mi94 mo94 A94.code (S94c call fuel) := by
  refine sim_seq (sim_reg (fun ⟨x0, x1⟩ _ _ _ => by kernel_rfl)) (sim_seq (sim_seq (sim_reg (fun ⟨x0, x1, x4, x5, x10, x12, x13, x14, x24⟩ _ _ _ => by kernel_rfl)) (sim_cond (fun ⟨x0, x1, x4, x5, x10, x12, x13, x14, x24⟩ => by kernel_rfl) (sim_seq (sim_reg (fun ⟨x0, x1, x4, x5, x10, x12, x13, x14, x24⟩ _ _ _ => by kernel_rfl)) (sim_ret)) (sim_skip))) (sim_seq (sim_seq (sim_reg (fun ⟨x0, x1, x4, x5, x10, x12, x13, x14, x24⟩ _ _ _ => by kernel_rfl)) (sim_block (sim_loop (sim_seq (sim_reg (fun ⟨x0, x1, x4, x5, x10, x12, x13, x14, x24⟩ _ _ _ => by kernel_rfl)) (sim_seq (sim_cond (fun ⟨x0, x1, x4, x5, x10, x12, x13, x14, x24⟩ => by kernel_rfl) (sim_skip) (sim_exit)) (sim_seq (sim_block (sim_seq (sim_reg (fun ⟨x0, x1, x4, x5, x10, x12, x13, x14, x24⟩ _ _ _ => by kernel_rfl)) (sim_seq (sim_reg (fun ⟨x0, x1, x4, x5, x10, x12, x13, x14, x24⟩ _ _ _ => by kernel_rfl)) (sim_cond (fun ⟨x0, x1, x4, x5, x10, x12, x13, x14, x24⟩ => by kernel_rfl) (sim_seq (sim_reg (fun ⟨x0, x1, x4, x5, x10, x12, x13, x14, x24⟩ _ _ _ => by kernel_rfl)) (sim_ret)) (sim_skip))))) (sim_reg (fun ⟨x0, x1, x4, x5, x10, x12, x13, x14, x24⟩ _ _ _ => by kernel_rfl)))))))) (sim_seq (sim_reg (fun ⟨x0, x1, x4, x5, x10, x12, x13, x14, x24⟩ _ _ _ => by kernel_rfl)) (sim_ret))))
theorem S94_ok (call : Nat → List AV → M AV) (fuel : Nat) (args : List AV) (s : AS) : afn call fuel A94 args s = S94 call fuel args s := by
  rcases args with _ | ⟨x0, _ | ⟨x1, _ | ⟨x2, r⟩⟩⟩
  · kernel_rfl
  · kernel_rfl
  · exact (afn_sim (S94_sim call fuel) (v := (.mk x0 x1)) (e2 := S94e) (by kernel_rfl) (by kernel_rfl) (fun e w s => by cases w; cases e <;> kernel_rfl)).trans (by kernel_rfl)
  · kernel_rfl
def A105 : AFn := { nargs := 3, ntmps := 33, res := [.cell 6 true 2], code := .seq (.ops [⟨0, (some 3), none, .l (.box (.tmp 0)), []⟩, ⟨1, (some 4), none, .l (.box (.tmp 1)), []⟩, ⟨2, (some 6), none, .l (.alloc [.str [], .int .i64 0]), []⟩] 3 [2, 3, 4, 6]) (.seq (.seq (.ops [⟨0, (some 7), none, .p (.mv (.tmp 2)), []⟩] 1 [3, 4, 6, 7]) (.block 0 (.seq (.ops [⟨0, (some 9), none, .p (.bin .eql (.tmp 7) (.const (.int .i64 3))), []⟩, ⟨1, (some 8), none, .p (.mv (.tmp 9)), []⟩] 2 [3, 4, 6, 7, 8]) (.cond (.tmp 8) (.seq (.ops [⟨0, (some 10), none, .r (.load true 2 (.tmp 3)), []⟩, ⟨3, (some 13), none, .r (.load true 2 (.tmp 4)), []⟩, ⟨1, (some 11), none, .e (.call true 115 [.tmp 10, .const (.int .i64 1)]), []⟩, ⟨2, (some 12), none, .p (.bin .add (.tmp 11) (.const (.str [32, 43, 32]))), []⟩, ⟨4, (some 14), none, .e (.call true 115 [.tmp 13, .const (.int .i64 2)]), []⟩, ⟨5, (some 15), none, .p (.bin .add (.tmp 12) (.tmp 14)), []⟩, ⟨6, (some 16), none, .p (.build [.str [], .int .i64 0] [(0, 1, .tmp 15), (1, 1, .const (.int .i64 1))]), []⟩, ⟨7, none, none, .e (.store (.tmp 6) (.tmp 16) 2), []⟩] 8 [6]) (.ret)) (.seq (.ops [⟨0, (some 18), none, .p (.bin .eql (.tmp 7) (.const (.int .i64 4))), []⟩, ⟨1, (some 17), none, .p (.mv (.tmp 18)), []⟩] 2 [3, 4, 6, 17]) (.cond (.tmp 17) (.seq (.ops [⟨0, (some 19), none, .r (.load true 2 (.tmp 3)), []⟩, ⟨3, (some 22), none, .r (.load true 2 (.tmp 4)), []⟩, ⟨1, (some 20), none, .e (.call true 115 [.tmp 19, .const (.int .i64 1)]), []⟩, ⟨2, (some 21), none, .p (.bin .add (.tmp 20) (.const (.str [32, 45, 32]))), []⟩, ⟨4, (some 23), none, .e (.call true 115 [.tmp 22, .const (.int .i64 2)]), []⟩, ⟨5, (some 24), none, .p (.bin .add (.tmp 21) (.tmp 23)), []⟩, ⟨6, (some 25), none, .p (.build [.str [], .int .i64 0] [(0, 1, .tmp 24), (1, 1, .const (.int .i64 1))]), []⟩, ⟨7, none, none, .e (.store (.tmp 6) (.tmp 25) 2), []⟩] 8 [6]) (.ret)) (.skip))))))) (.seq (.ops [⟨0, (some 26), none, .r (.load true 2 (.tmp 3)), []⟩, ⟨3, (some 29), none, .r (.load true 2 (.tmp 4)), []⟩, ⟨1, (some 27), none, .e (.call true 115 [.tmp 26, .const (.int .i64 2)]), []⟩, ⟨2, (some 28), none, .p (.bin .add (.tmp 27) (.const (.str [32, 38, 32]))), []⟩, ⟨4, (some 30), none, .e (.call true 115 [.tmp 29, .const (.int .i64 3)]), []⟩, ⟨5, (some 31), none, .p (.bin .add (.tmp 28) (.tmp 30)), []⟩, ⟨6, (some 32), none, .p (.build [.str [], .int .i64 0] [(0, 1, .tmp 31), (1, 1, .const (.int .i64 2))]), []⟩, ⟨7, none, none, .e (.store (.tmp 6) (.tmp 32) 2), []⟩] 8 [6]) (.ret))) }
def N105 : Notes := { note := fun | 3 => some ⟨[0, 3, 1, 2, 4, 5, 6, 7], [0, 1, 3, 0, 11, 31, 63, 127], [[], [], [], [], [], [], [], []]⟩ | 5 => some ⟨[0, 3, 1, 2, 4, 5, 6, 7], [0, 1, 3, 0, 11, 31, 63, 127], [[], [], [], [], [], [], [], []]⟩ | 6 => some ⟨[0, 3, 1, 2, 4, 5, 6, 7], [0, 1, 3, 0, 11, 31, 63, 127], [[], [], [], [], [], [], [], []]⟩ | _ => none, keep := fun | 6 => [6] | 3 => [6] | 5 => [6] | 4 => [3, 4, 6, 17] | 2 => [3, 4, 6, 7, 8] | 1 => [3, 4, 6, 7] | 0 => [2, 3, 4, 6] | _ => [] }
theorem A105_ok : cFn Try.prog qf N105 Try.f105 = some A105 := by kernel_rfl
inductive W105 where
  | mk (x2 x3 x4 x6 x7 x8 x17 : AV)
inductive V105 where
  | mk (x0 x1 x2 : AV)
def mo105 : W105 → Fr := fun ⟨x2, x3, x4, x6, x7, x8, x17⟩ => [.top, .top, x2, x3, x4, .top, x6, x7, x8, .top, .top, .top, .top, .top, .top, .top, .top, x17, .top, .top, .top, .top, .top, .top, .top, .top, .top, .top, .top, .top, .top, .top, .top]
def mi105 : V105 → Fr := fun ⟨x0, x1, x2⟩ => [x0, x1, x2, .tup [], .tup [], .tup [], .tup [], .tup [], .tup [], .tup [], .tup [], .tup [], .tup [], .tup [], .tup [], .tup [], .tup [], .tup [], .tup [], .tup [], .tup [], .tup [], .tup [], .tup [], .tup [], .tup [], .tup [], .tup [], .tup [], .tup [], .tup [], .tup [], .tup []]
noncomputable def S105r0 {R : Type} (call : Nat → List AV → M AV) : V105 → Nat → AS → (W105 → AS → Option R) → Option R := @V105.rec (fun _ => Nat → AS → (W105 → AS → Option R) → Option R) fun x0 x1 x2 base s k =>
  bndO (newQ (base + 0) (boxB x0 (base + 0)) s) fun y0 s =>
  bndO (newQ (base + 1) (boxB x1 (base + 1)) s) fun y1 s =>
  bndO (newQ (base + 2) (allocB [(.str []), (.int .i64 0)] (base + 2)) s) fun y2 s =>
  k (.mk x2 y0 y1 y2 .top .top .top) s
noncomputable def S105r1 {R : Type} (call : Nat → List AV → M AV) : W105 → Nat → AS → (W105 → AS → Option R) → Option R := @W105.rec (fun _ => Nat → AS → (W105 → AS → Option R) → Option R) fun x2 x3 x4 x6 x7 x8 x17 base s k =>
  k (.mk .top x3 x4 x6 x2 .top .top) s
noncomputable def S105r2 {R : Type} (call : Nat → List AV → M AV) : W105 → Nat → AS → (W105 → AS → Option R) → Option R := @W105.rec (fun _ => Nat → AS → (W105 → AS → Option R) → Option R) fun x2 x3 x4 x6 x7 x8 x17 base s k =>
  bndP (binQ .eql x7 ((.int .i64 3) : AV)) fun y0 =>
  k (.mk .top x3 x4 x6 x7 y0 .top) s
noncomputable def S105r3 {R : Type} (call : Nat → List AV → M AV) : W105 → Nat → AS → (W105 → AS → Option R) → Option R := @W105.rec (fun _ => Nat → AS → (W105 → AS → Option R) → Option R) fun x2 x3 x4 x6 x7 x8 x17 base s k =>
  bndP (loadQ true 2 x3 s.h) fun y0 =>
  bndP (loadQ true 2 x4 s.h) fun y1 =>
  bndO (quietQ call 115 [y0, ((.int .i64 1) : AV)] s) fun y2 s =>
  bndP (binQ .add y2 ((.str [32, 43, 32]) : AV)) fun y3 =>
  bndO (quietQ call 115 [y1, ((.int .i64 2) : AV)] s) fun y4 s =>
  bndP (binQ .add y3 y4) fun y5 =>
  bndP (buildA [(.str []), (.int .i64 0)] [(0, 1, y5), (1, 1, ((.int .i64 1) : AV))]) fun y6 =>
  bndO (storeQ x6 y6 2 s) fun _ s =>
  k (.mk .top .top .top x6 .top .top .top) s
noncomputable def S105r4 {R : Type} (call : Nat → List AV → M AV) : W105 → Nat → AS → (W105 → AS → Option R) → Option R := @W105.rec (fun _ => Nat → AS → (W105 → AS → Option R) → Option R) fun x2 x3 x4 x6 x7 x8 x17 base s k =>
  bndP (binQ .eql x7 ((.int .i64 4) : AV)) fun y0 =>
  k (.mk .top x3 x4 x6 .top .top y0) s
noncomputable def S105r5 {R : Type} (call : Nat → List AV → M AV) : W105 → Nat → AS → (W105 → AS → Option R) → Option R := @W105.rec (fun _ => Nat → AS → (W105 → AS → Option R) → Option R) fun x2 x3 x4 x6 x7 x8 x17 base s k =>
  bndP (loadQ true 2 x3 s.h) fun y0 =>
  bndP (loadQ true 2 x4 s.h) fun y1 =>
  bndO (quietQ call 115 [y0, ((.int .i64 1) : AV)] s) fun y2 s =>
  bndP (binQ .add y2 ((.str [32, 45, 32]) : AV)) fun y3 =>
  bndO (quietQ call 115 [y1, ((.int .i64 2) : AV)] s) fun y4 s =>
  bndP (binQ .add y3 y4) fun y5 =>
  bndP (buildA [(.str []), (.int .i64 0)] [(0, 1, y5), (1, 1, ((.int .i64 1) : AV))]) fun y6 =>
  bndO (storeQ x6 y6 2 s) fun _ s =>
  k (.mk .top .top .top x6 .top .top .top) s
noncomputable def S105r6 {R : Type} (call : Nat → List AV → M AV) : W105 → Nat → AS → (W105 → AS → Option R) → Option R := @W105.rec (fun _ => Nat → AS → (W105 → AS → Option R) → Option R) fun x2 x3 x4 x6 x7 x8 x17 base s k =>
  bndP (loadQ true 2 x3 s.h) fun y0 =>
  bndP (loadQ true 2 x4 s.h) fun y1 =>
  bndO (quietQ call 115 [y0, ((.int .i64 2) : AV)] s) fun y2 s =>
  bndP (binQ .add y2 ((.str [32, 38, 32]) : AV)) fun y3 =>
  bndO (quietQ call 115 [y1, ((.int .i64 3) : AV)] s) fun y4 s =>
  bndP (binQ .add y3 y4) fun y5 =>
  bndP (buildA [(.str []), (.int .i64 0)] [(0, 1, y5), (1, 1, ((.int .i64 2) : AV))]) fun y6 =>
  bndO (storeQ x6 y6 2 s) fun _ s =>
  k (.mk .top .top .top x6 .top .top .top) s
noncomputable def S105c {R : Type} (call : Nat → List AV → M AV) (fuel : Nat) : SC V105 W105 R := sSeq (sReg 3 (S105r0 call)) (sSeq (sSeq (sReg 1 (S105r1 call)) (sBlock 0 (sSeq (sReg 2 (S105r2 call)) (sCond (@W105.rec (fun _ => AV) fun _ _ _ _ _ x8 _ => x8) (sSeq (sReg 8 (S105r3 call)) (sRet)) (sSeq (sReg 2 (S105r4 call)) (sCond (@W105.rec (fun _ => AV) fun _ _ _ _ _ _ x17 => x17) (sSeq (sReg 8 (S105r5 call)) (sRet)) (sSkip))))))) (sSeq (sReg 8 (S105r6 call)) (sRet)))
noncomputable def S105e : Ex → W105 → AS → Option (AV × AS) := fun e w s => (@W105.rec (fun _ => Option (AV × AS)) fun _ _ _ x6 _ _ _ => @Ex.rec (fun _ => Option (AV × AS)) (match resS [fun h => loadA true 2 x6 h] s.h with | some vs => some (shut vs, s) | none => none) (fun _ => none) (match resS [fun h => loadA true 2 x6 h] s.h with | some vs => some (shut vs, s) | none => none) e) w
noncomputable def S105 (call : Nat → List AV → M AV) (fuel : Nat) (args : List AV) (s : AS) : Option (AV × AS) := match args with
  | [x0, x1, x2] => S105c call fuel (.mk x0 x1 x2) s S105e
  | _ => none
theorem S105_sim (call : Nat → List AV → M AV) (fuel : Nat) : Sim (R := AV × AS) call fuel mi105 mo105 A105.code (S105c call fuel) := by
  refine sim_seq (sim_reg (fun ⟨x0, x1, x2⟩ _ _ _ => by kernel_rfl)) (sim_seq (sim_seq (sim_reg (fun ⟨x2, x3, x4, x6, x7, x8, x17⟩ _ _ _ => by kernel_rfl)) (sim_block (sim_seq (sim_reg (fun ⟨x2, x3, x4, x6, x7, x8, x17⟩ _ _ _ => by kernel_rfl)) (sim_cond (fun ⟨x2, x3, x4, x6, x7, x8, x17⟩ => by kernel_rfl) (sim_seq (sim_reg (fun ⟨x2, x3, x4, x6, x7, x8, x17⟩ _ _ _ => by kernel_rfl)) (sim_ret)) (sim_seq (sim_reg (fun ⟨x2, x3, x4, x6, x7, x8, x17⟩ _ _ _ => by kernel_rfl)) (sim_cond (fun ⟨x2, x3, x4, x6, x7, x8, x17⟩ => by kernel_rfl) (sim_seq (sim_reg (fun ⟨x2, x3, x4, x6, x7, x8, x17⟩ _ _ _ => by kernel_rfl)) (sim_ret)) (sim_skip))))))) (sim_seq (sim_reg (fun ⟨x2, x3, x4, x6, x7, x8, x17⟩ _ _ _ => by kernel_rfl)) (sim_ret)))
theorem S105_ok (call : Nat → List AV → M AV) (fuel : Nat) (args : List AV) (s : AS) : afn call fuel A105 args s = S105 call fuel args s := by
  rcases args with _ | ⟨x0, _ | ⟨x1, _ | ⟨x2, _ | ⟨x3, r⟩⟩⟩⟩
  · kernel_rfl
  · kernel_rfl
  · kernel_rfl
  · exact (afn_sim (S105_sim call fuel) (v := (.mk x0 x1 x2)) (e2 := S105e) (by kernel_rfl) (by kernel_rfl) (fun e w s => by cases w; cases e <;> kernel_rfl)).trans (by kernel_rfl)
  · kernel_rfl
def A107 : AFn := { nargs := 2, ntmps := 18, res := [.tmp 4], code := .seq (.ops [⟨0, (some 4), none, .p (.mv (.const (.bool false))), []⟩] 1 [0, 1]) (.seq (.ops [⟨0, (some 5), none, .p (.mv (.tmp 0)), []⟩, ⟨1, (some 6), none, .p (.lenS true (.tmp 5)), []⟩, ⟨2, (some 7), none, .p (.mv (.tmp 1)), []⟩, ⟨3, (some 8), none, .p (.lenS true (.tmp 7)), []⟩, ⟨4, (some 9), none, .p (.bin .geq (.tmp 6) (.tmp 8)), []⟩, ⟨5, (some 10), none, .p (.mv (.tmp 9)), []⟩, ⟨6, (some 11), (some (10, true)), .p (.mv (.tmp 0)), []⟩, ⟨7, (some 12), (some (10, true)), .p (.mv (.tmp 1)), []⟩, ⟨8, (some 13), (some (10, true)), .p (.lenS true (.tmp 12)), []⟩, ⟨9, (some 14), (some (10, true)), .p (.cuts (.tmp 11) none (some (.tmp 13))), []⟩, ⟨10, (some 15), (some (10, true)), .p (.mv (.tmp 1)), []⟩, ⟨11, (some 16), (some (10, true)), .p (.bin .eql (.tmp 14) (.tmp 15)), []⟩, ⟨12, (some 17), none, .p (.pick (.tmp 10) (.tmp 16) (.const (.bool false))), []⟩, ⟨13, (some 4), none, .p (.mv (.tmp 17)), []⟩] 14 [4]) (.ret)) }
def N107 : Notes := { note := fun _ => none, keep := fun | 1 => [4] | 0 => [0, 1] | _ => [] }
theorem A107_ok : cFn Try.prog qf N107 Try.f107 = some A107 := by kernel_rfl
inductive W107 where
  | mk (x0 x1 x4 : AV)
inductive V107 where
  | mk (x0 x1 : AV)
def mo107 : W107 → Fr := fun ⟨x0, x1, x4⟩ => [x0, x1, .top, .top, x4, .top, .top, .top, .top, .top, .top, .top, .top, .top, .top, .top, .top, .top]
def mi107 : V107 → Fr := fun ⟨x0, x1⟩ => [x0, x1, .tup [], .tup [], .tup [], .tup [], .tup [], .tup [], .tup [], .tup [], .tup [], .tup [], .tup [], .tup [], .tup [], .tup [], .tup [], .tup []]
noncomputable def S107r0 {R : Type} (call : Nat → List AV → M AV) : V107 → Nat → AS → (W107 → AS → Option R) → Option R := @V107.rec (fun _ => Nat → AS → (W107 → AS → Option R) → Option R) fun x0 x1 base s k =>
  k (.mk x0 x1 .top) s
noncomputable def S107r1 {R : Type} (call : Nat → List AV → M AV) : W107 → Nat → AS → (W107 → AS → Option R) → Option R := @W107.rec (fun _ => Nat → AS → (W107 → AS → Option R) → Option R) fun x0 x1 x4 base s k =>
  bndP (lenAQ true x0) fun y0 =>
  bndP (lenAQ true x1) fun y1 =>
  bndP (binQ .geq y0 y1) fun y2 =>
  bndO (gd (wantG y2 true) (fun s => (pureO (some x0) s)) s) fun y3 s =>
  bndO (gd (wantG y2 true) (fun s => (pureO (some x1) s)) s) fun y4 s =>
  bndO (gd (wantG y2 true) (fun s => (pureO (lenAQ true y4) s)) s) fun y5 s =>
  bndO (gd (wantG y2 true) (fun s => (pureO (cutsQ y3 none (some y5)) s)) s) fun y6 s =>
  bndO (gd (wantG y2 true) (fun s => (pureO (some x1) s)) s) fun y7 s =>
  bndO (gd (wantG y2 true) (fun s => (pureO (binQ .eql y6 y7) s)) s) fun y8 s =>
  bndP (pickA y2 y8 ((.bool false) : AV)) fun y9 =>
  k (.mk .top .top y9) s
noncomputable def S107c {R : Type} (call : Nat → List AV → M AV) (fuel : Nat) : SC V107 W107 R := sSeq (sReg 1 (S107r0 call)) (sSeq (sReg 14 (S107r1 call)) (sRet))
noncomputable def S107e : Ex → W107 → AS → Option (AV × AS) := fun e w s => (@W107.rec (fun _ => Option (AV × AS)) fun _ _ x4 => @Ex.rec (fun _ => Option (AV × AS)) (some (x4, s)) (fun _ => none) (some (x4, s)) e) w
noncomputable def S107 (call : Nat → List AV → M AV) (fuel : Nat) (args : List AV) (s : AS) : Option (AV × AS) := match args with
  | [x0, x1] => S107c call fuel (.mk x0 x1) s S107e
  | _ => none
theorem S107_sim (call : Nat → List AV → M AV) (fuel : Nat) : Sim (R := AV × AS) call fuel mi107 mo107 A107.code (S107c call fuel) := by
  refine sim_seq (sim_reg (fun ⟨x0, x1⟩ _ _ _ => by kernel_rfl)) (sim_seq (sim_reg (fun ⟨x0, x1, x4⟩ _ _ _ => by kernel_rfl)) (sim_ret))
theorem S107_ok (call : Nat → List AV → M AV) (fuel : Nat) (args : List AV) (s : AS) : afn call fuel A107 args s = S107 call fuel args s := by
  rcases args with _ | ⟨x0, _ | ⟨x1, _ | ⟨x2, r⟩⟩⟩
  · kernel_rfl
  · kernel_rfl
  · exact (afn_sim (S107_sim call fuel) (v := (.mk x0 x1)) (e2 := S107e) (by kernel_rfl) (by kernel_rfl) (fun e w s => by cases w; cases e <;> kernel_rfl)).trans (by kernel_rfl)
  · kernel_rfl
def A108 : AFn := { nargs := 2, ntmps := 143, res := [.tmp 4], code := .seq (.ops [⟨0, (some 4), none, .p (.mv (.const (.int .i64 0))), []⟩] 1 [0, 1]) (.seq (.ops [⟨0, (some 14), none, .p (.mv (.tmp 1)), []⟩, ⟨1, (some 15), none, .p (.lenS true (.tmp 14)), []⟩, ⟨2, (some 5), none, .p (.mv (.tmp 15)), []⟩] 3 [0, 1, 5]) (.seq (.block 0 (.seq (.ops [⟨0, (some 17), none, .p (.mv (.tmp 5)), []⟩, ⟨1, (some 18), none, .p (.bin .eql (.tmp 17) (.const (.int .i64 0))), []⟩, ⟨2, (some 19), none, .p (.mv (.tmp 18)), []⟩, ⟨3, (some 20), (some (19, false)), .p (.mv (.tmp 1)), []⟩, ⟨4, (some 21), (some (19, false)), .p (.mv (.tmp 0)), []⟩, ⟨5, (some 22), (some (19, false)), .p (.bin .eql (.tmp 20) (.tmp 21)), []⟩, ⟨6, (some 23), none, .p (.pick (.tmp 19) (.const (.bool true)) (.tmp 22)), []⟩, ⟨7, (some 16), none, .p (.mv (.tmp 23)), []⟩] 8 [0, 1, 5, 16]) (.cond (.tmp 16) (.seq (.ops [⟨0, (some 4), none, .p (.mv (.const (.int .i64 0))), []⟩] 1 [4]) (.ret)) (.seq (.ops [⟨0, (some 25), none, .p (.mv (.tmp 5)), []⟩, ⟨1, (some 26), none, .p (.bin .eql (.tmp 25) (.const (.int .i64 1))), []⟩, ⟨2, (some 24), none, .p (.mv (.tmp 26)), []⟩] 3 [0, 1, 5, 24]) (.cond (.tmp 24) (.seq (.ops [⟨0, (some 27), none, .p (.mv (.tmp 0)), []⟩, ⟨1, (some 28), none, .p (.mv (.tmp 1)), []⟩, ⟨2, (some 29), none, .p (.idxs (.tmp 28) (.const (.int .i64 0))), []⟩, ⟨3, (some 30), none, .e (.call true 117 [.tmp 27, .tmp 29]), []⟩, ⟨4, (some 4), none, .p (.mv (.tmp 30)), []⟩] 5 [4]) (.ret)) (.seq (.ops [⟨0, (some 32), none, .p (.mv (.tmp 5)), []⟩, ⟨1, (some 33), none, .p (.mv (.tmp 0)), []⟩, ⟨2, (some 34), none, .p (.lenS true (.tmp 33)), []⟩, ⟨3, (some 35), none, .p (.bin .geq (.tmp 32) (.tmp 34)), []⟩, ⟨4, (some 31), none, .p (.mv (.tmp 35)), []⟩] 5 [0, 1, 5, 31]) (.cond (.tmp 31) (.seq (.ops [⟨0, (some 4), none, .p (.mv (.const (.int .i64 (-1)))), []⟩] 1 [4]) (.ret)) (.seq (.ops [⟨0, (some 37), none, .p (.mv (.tmp 5)), []⟩, ⟨1, (some 38), none, .e .bad, []⟩, ⟨2, (some 39), none, .p (.bin .leq (.tmp 37) (.tmp 38)), []⟩, ⟨3, (some 40), none, .p (.mv (.tmp 39)), []⟩, ⟨4, (some 41), (some (40, true)), .p (.mv (.tmp 0)), []⟩, ⟨5, (some 42), (some (40, true)), .p (.lenS true (.tmp 41)), []⟩, ⟨6, (some 43), (some (40, true)), .p (.bin .leq (.tmp 42) (.const (.int .i64 64))), []⟩, ⟨7, (some 44), none, .p (.pick (.tmp 40) (.tmp 43) (.const (.bool false))), []⟩, ⟨8, (some 36), none, .p (.mv (.tmp 44)), []⟩] 9 [0, 1, 5, 36]) (.cond (.tmp 36) (.seq (.ops [⟨0, (some 45), none, .p (.mv (.tmp 0)), []⟩, ⟨1, (some 46), none, .p (.mv (.tmp 1)), []⟩, ⟨2, (some 47), none, .e (.call true 118 [.tmp 45, .tmp 46]), []⟩, ⟨3, (some 4), none, .p (.mv (.tmp 47)), []⟩] 4 [4]) (.ret)) (.skip)))))))))) (.seq (.ops [⟨0, (some 48), none, .p (.mv (.tmp 1)), []⟩, ⟨1, (some 49), none, .p (.idxs (.tmp 48) (.const (.int .i64 0))), []⟩, ⟨2, (some 6), none, .p (.mv (.tmp 49)), []⟩] 3 [0, 1, 5, 6]) (.seq (.ops [⟨0, (some 50), none, .p (.mv (.tmp 1)), []⟩, ⟨1, (some 51), none, .p (.idxs (.tmp 50) (.const (.int .i64 1))), []⟩, ⟨2, (some 7), none, .p (.mv (.tmp 51)), []⟩] 3 [0, 1, 5, 6, 7]) (.seq (.ops [⟨0, (some 8), none, .p (.mv (.const (.int .i64 0))), []⟩] 1 [0, 1, 5, 6, 7, 8]) (.seq (.ops [⟨0, (some 52), none, .p (.mv (.tmp 0)), []⟩, ⟨1, (some 53), none, .p (.lenS true (.tmp 52)), []⟩, ⟨2, (some 54), none, .p (.mv (.tmp 5)), []⟩, ⟨3, (some 55), none, .p (.bin .sub (.tmp 53) (.tmp 54)), []⟩, ⟨4, (some 56), none, .p (.bin .add (.tmp 55) (.const (.int .i64 1))), []⟩, ⟨5, (some 9), none, .p (.mv (.tmp 56)), []⟩] 6 [0, 1, 5, 6, 7, 8, 9]) (.seq (.ops [⟨0, (some 10), none, .p (.mv (.const (.int .i64 0))), []⟩] 1 [0, 1, 5, 6, 7, 8, 9, 10]) (.seq (.block 1 (.loop (.seq (.seq (.ops [⟨0, (some 57), none, .p (.mv (.tmp 8)), []⟩, ⟨1, (some 58), none, .p (.mv (.tmp 9)), []⟩, ⟨2, (some 59), none, .p (.bin .lss (.tmp 57) (.tmp 58)), []⟩] 3 [0, 1, 5, 6, 7, 8, 9, 10, 59]) (.cond (.tmp 59) (.skip) (.exit 1))) (.block 2 (.seq (.seq (.ops [⟨0, (some 60), none, .p (.mv (.tmp 0)), []⟩, ⟨1, (some 61), none, .p (.mv (.tmp 8)), []⟩, ⟨2, (some 62), none, .p (.idxs (.tmp 60) (.tmp 61)), []⟩, ⟨3, (some 63), none, .p (.mv (.tmp 6)), []⟩, ⟨4, (some 64), none, .p (.bin .neq (.tmp 62) (.tmp 63)), []⟩] 5 [0, 1, 5, 6, 7, 8, 9, 10, 64]) (.cond (.tmp 64) (.seq (.ops [⟨0, (some 65), none, .p (.mv (.tmp 0)), []⟩, ⟨1, (some 66), none, .p (.mv (.tmp 8)), []⟩, ⟨2, (some 67), none, .p (.bin .add (.tmp 66) (.const (.int .i64 1))), []⟩, ⟨3, (some 68), none, .p (.mv (.tmp 9)), []⟩, ⟨4, (some 69), none, .p (.cuts (.tmp 65) (some (.tmp 67)) (some (.tmp 68))), []⟩, ⟨5, (some 70), none, .p (.mv (.tmp 6)), []⟩, ⟨6, (some 71), none, .e (.call true 117 [.tmp 69, .tmp 70]), []⟩, ⟨7, (some 11), none, .p (.mv (.tmp 71)), []⟩] 8 [0, 1, 5, 6, 7, 8, 9, 10, 11]) (.seq (.seq (.ops [⟨0, (some 72), none, .p (.mv (.tmp 11)), []⟩, ⟨1, (some 73), none, .p (.bin .lss (.tmp 72) (.const (.int .i64 0))), []⟩] 2 [0, 1, 5, 6, 7, 8, 9, 10, 11, 73]) (.cond (.tmp 73) (.seq (.ops [⟨0, (some 4), none, .p (.mv (.const (.int .i64 (-1)))), []⟩] 1 [4]) (.ret)) (.skip))) (.ops [⟨0, (some 74), none, .p (.mv (.tmp 8)), []⟩, ⟨1, (some 75), none, .p (.mv (.tmp 11)), []⟩, ⟨2, (some 76), none, .p (.bin .add (.tmp 75) (.const (.int .i64 1))), []⟩, ⟨3, (some 77), none, .p (.bin .add (.tmp 74) (.tmp 76)), []⟩, ⟨4, (some 8), none, .p (.mv (.tmp 77)), []⟩] 5 [0, 1, 5, 6, 7, 8, 9, 10]))) (.skip))) (.seq (.seq (.ops [⟨0, (some 78), none, .p (.mv (.tmp 0)), []⟩, ⟨1, (some 79), none, .p (.mv (.tmp 8)), []⟩, ⟨2, (some 80), none, .p (.bin .add (.tmp 79) (.const (.int .i64 1))), []⟩, ⟨3, (some 81), none, .p (.idxs (.tmp 78) (.tmp 80)), []⟩, ⟨4, (some 82), none, .p (.mv (.tmp 7)), []⟩, ⟨5, (some 83), none, .p (.bin .eql (.tmp 81) (.tmp 82)), []⟩, ⟨6, (some 84), none, .p (.mv (.tmp 83)), []⟩, ⟨7, (some 85), (some (84, true)), .p (.mv (.tmp 0)), []⟩, ⟨8, (some 86), (some (84, true)), .p (.mv (.tmp 8)), []⟩, ⟨9, (some 87), (some (84, true)), .p (.mv (.tmp 8)), []⟩, ⟨10, (some 88), (some (84, true)), .p (.mv (.tmp 5)), []⟩, ⟨11, (some 89), (some (84, true)), .p (.bin .add (.tmp 87) (.tmp 88)), []⟩, ⟨12, (some 90), (some (84, true)), .p (.cuts (.tmp 85) (some (.tmp 86)) (some (.tmp 89))), []⟩, ⟨13, (some 91), (some (84, true)), .p (.mv (.tmp 1)), []⟩, ⟨14, (some 92), (some (84, true)), .p (.bin .eql (.tmp 90) (.tmp 91)), []⟩, ⟨15, (some 93), none, .p (.pick (.tmp 84) (.tmp 92) (.const (.bool false))), []⟩] 16 [0, 1, 5, 6, 7, 8, 9, 10, 93]) (.cond (.tmp 93) (.seq (.ops [⟨0, (some 94), none, .p (.mv (.tmp 8)), []⟩, ⟨1, (some 4), none, .p (.mv (.tmp 94)), []⟩] 2 [4]) (.ret)) (.skip))) (.seq (.ops [⟨0, (some 95), none, .p (.mv (.tmp 8)), []⟩, ⟨1, (some 96), none, .p (.bin .add (.tmp 95) (.const (.int .i64 1))), []⟩, ⟨2, (some 8), none, .p (.mv (.tmp 96)), []⟩] 3 [0, 1, 5, 6, 7, 8, 9, 10]) (.seq (.ops [⟨0, (some 97), none, .p (.mv (.tmp 10)), []⟩, ⟨1, (some 98), none, .p (.bin .add (.tmp 97) (.const (.int .i64 1))), []⟩, ⟨2, (some 10), none, .p (.mv (.tmp 98)), []⟩] 3 [0, 1, 5, 6, 7, 8, 9, 10]) (.seq (.ops [⟨0, (some 99), none, .p (.mv (.tmp 5)), []⟩, ⟨1, (some 100), none, .e .bad, []⟩, ⟨2, (some 101), none, .p (.bin .leq (.tmp 99) (.tmp 100)), []⟩, ⟨3, (some 102), none, .p (.mv (.tmp 101)), []⟩, ⟨4, (some 103), (some (102, true)), .p (.mv (.tmp 10)), []⟩, ⟨5, (some 104), (some (102, true)), .p (.mv (.tmp 8)), []⟩, ⟨6, (some 105), (some (102, true)), .e (.call true 119 [.tmp 104]), []⟩, ⟨7, (some 106), (some (102, true)), .p (.bin .gtr (.tmp 103) (.tmp 105)), []⟩, ⟨8, (some 107), none, .p (.pick (.tmp 102) (.tmp 106) (.const (.bool false))), []⟩] 9 [0, 1, 5, 6, 7, 8, 9, 10, 107]) (.cond (.tmp 107) (.seq (.ops [⟨0, (some 108), none, .p (.mv (.tmp 0)), []⟩, ⟨1, (some 109), none, .p (.mv (.tmp 8)), []⟩, ⟨2, (some 110), none, .p (.cuts (.tmp 108) (some (.tmp 109)) none), []⟩, ⟨3, (some 111), none, .p (.mv (.tmp 1)), []⟩, ⟨4, (some 112), none, .e (.call true 118 [.tmp 110, .tmp 111]), []⟩, ⟨5, (some 12), none, .p (.mv (.tmp 112)), []⟩] 6 [8, 12]) (.seq (.seq (.ops [⟨0, (some 113), none, .p (.mv (.tmp 12)), []⟩, ⟨1, (some 114), none, .p (.bin .geq (.tmp 113) (.const (.int .i64 0))), []⟩] 2 [8, 12, 114]) (.cond (.tmp 114) (.seq (.ops [⟨0, (some 115), none, .p (.mv (.tmp 12)), []⟩, ⟨1, (some 116), none, .p (.mv (.tmp 8)), []⟩, ⟨2, (some 117), none, .p (.bin .add (.tmp 115) (.tmp 116)), []⟩, ⟨3, (some 4), none, .p (.mv (.tmp 117)), []⟩] 4 [4]) (.ret)) (.skip))) (.seq (.ops [⟨0, (some 4), none, .p (.mv (.const (.int .i64 (-1)))), []⟩] 1 [4]) (.ret)))) (.seq (.ops [⟨0, (some 118), none, .p (.mv (.tmp 5)), []⟩, ⟨1, (some 119), none, .e .bad, []⟩, ⟨2, (some 120), none, .p (.bin .gtr (.tmp 118) (.tmp 119)), []⟩, ⟨3, (some 121), none, .p (.mv (.tmp 120)), []⟩, ⟨4, (some 122), (some (121, true)), .p (.mv (.tmp 10)), []⟩, ⟨5, (some 123), (some (121, true)), .p (.mv (.tmp 8)), []⟩, ⟨6, (some 124), (some (121, true)), .p (.bin .shr (.tmp 123) (.const (.int .u64 4))), []⟩, ⟨7, (some 125), (some (121, true)), .p (.bin .add (.const (.int .i64 4)) (.tmp 124)), []⟩, ⟨8, (some 126), (some (121, true)), .p (.bin .geq (.tmp 122) (.tmp 125)), []⟩, ⟨9, (some 127), none, .p (.pick (.tmp 121) (.tmp 126) (.const (.bool false))), []⟩, ⟨10, (some 128), none, .p (.mv (.tmp 127)), []⟩, ⟨11, (some 129), (some (128, true)), .p (.mv (.tmp 8)), []⟩, ⟨12, (some 130), (some (128, true)), .p (.mv (.tmp 9)), []⟩, ⟨13, (some 131), (some (128, true)), .p (.bin .lss (.tmp 129) (.tmp 130)), []⟩, ⟨14, (some 132), none, .p (.pick (.tmp 128) (.tmp 131) (.const (.bool false))), []⟩] 15 [0, 1, 5, 6, 7, 8, 9, 10, 132]) (.cond (.tmp 132) (.seq (.ops [⟨0, (some 133), none, .p (.mv (.tmp 0)), []⟩, ⟨1, (some 134), none, .p (.mv (.tmp 8)), []⟩, ⟨2, (some 135), none, .p (.cuts (.tmp 133) (some (.tmp 134)) none), []⟩, ⟨3, (some 136), none, .p (.mv (.tmp 1)), []⟩, ⟨4, (some 137), none, .e (.call true 120 [.tmp 135, .tmp 136]), []⟩, ⟨5, (some 13), none, .p (.mv (.tmp 137)), []⟩] 6 [8, 13]) (.seq (.seq (.ops [⟨0, (some 138), none, .p (.mv (.tmp 13)), []⟩, ⟨1, (some 139), none, .p (.bin .lss (.tmp 138) (.const (.int .i64 0))), []⟩] 2 [8, 13, 139]) (.cond (.tmp 139) (.seq (.ops [⟨0, (some 4), none, .p (.mv (.const (.int .i64 (-1)))), []⟩] 1 [4]) (.ret)) (.skip))) (.seq (.ops [⟨0, (some 140), none, .p (.mv (.tmp 8)), []⟩, ⟨1, (some 141), none, .p (.mv (.tmp 13)), []⟩, ⟨2, (some 142), none, .p (.bin .add (.tmp 140) (.tmp 141)), []⟩, ⟨3, (some 4), none, .p (.mv (.tmp 142)), []⟩] 4 [4]) (.ret)))) (.skip))))))))))))) (.seq (.ops [⟨0, (some 4), none, .p (.mv (.const (.int .i64 (-1)))), []⟩] 1 [4]) (.ret)))))))))) }
def N108 : Notes := { note := fun _ => none, keep := fun | 35 => [4] | 29 => [4] | 28 => [4] | 27 => [8, 12, 114] | 26 => [8, 12] | 34 => [4] | 33 => [4] | 32 => [8, 13, 139] | 31 => [8, 13] | 30 => [0, 1, 5, 6, 7, 8, 9, 10, 132] | 25 => [0, 1, 5, 6, 7, 8, 9, 10, 107] | 24 => [0, 1, 5, 6, 7, 8, 9, 10] | 23 => [0, 1, 5, 6, 7, 8, 9, 10] | 22 => [4] | 21 => [0, 1, 5, 6, 7, 8, 9, 10, 93] | 20 => [0, 1, 5, 6, 7, 8, 9, 10] | 19 => [4] | 18 => [0, 1, 5, 6, 7, 8, 9, 10, 11, 73] | 17 => [0, 1, 5, 6, 7, 8, 9, 10, 11] | 16 => [0, 1, 5, 6, 7, 8, 9, 10, 64] | 15 => [0, 1, 5, 6, 7, 8, 9, 10, 59] | 14 => [0, 1, 5, 6, 7, 8, 9, 10] | 13 => [0, 1, 5, 6, 7, 8, 9] | 12 => [0, 1, 5, 6, 7, 8] | 11 => [0, 1, 5, 6, 7] | 10 => [0, 1, 5, 6] | 3 => [4] | 5 => [4] | 7 => [4] | 9 => [4] | 8 => [0, 1, 5, 36] | 6 => [0, 1, 5, 31] | 4 => [0, 1, 5, 24] | 2 => [0, 1, 5, 16] | 1 => [0, 1, 5] | 0 => [0, 1] | _ => [] }
theorem A108_ok : cFn Try.prog qf N108 Try.f108 = some A108 := by kernel_rfl
inductive W108 where
  | mk (x0 x1 x4 x5 x6 x7 x8 x9 x10 x11 x12 x13 x16 x24 x31 x36 x59 x64 x73 x93 x107 x114 x132 x139 : AV)
inductive V108 where
  | mk (x0 x1 : AV)
def mo108 : W108 → Fr := fun ⟨x0, x1, x4, x5, x6, x7, x8, x9, x10, x11, x12, x13, x16, x24, x31, x36, x59, x64, x73, x93, x107, x114, x132, x139⟩ => [x0, x1, .top, .top, x4, x5, x6, x7, x8, x9, x10, x11, x12, x13, .top, .top, x16, .top, .top, .top, .top, .top, .top, .top, x24, .top, .top, .top, .top, .top, .top, x31, .top, .top, .top, .top, x36, .top, .top, .top, .top, .top, .top, .top, .top, .top, .top, .top, .top, .top, .top, .top, .top, .top, .top, .top, .top, .top, .top, x59, .top, .top, .top, .top, x64, .top, .top, .top, .top, .top, .top, .top, .top, x73, .top, .top, .top, .top, .top, .top, .top, .top, .top, .top, .top, .top, .top, .top, .top, .top, .top, .top, .top, x93, .top, .top, .top, .top, .top, .top, .top, .top, .top, .top, .top, .top, .top, x107, .top, .top, .top, .top, .top, .top, x114, .top, .top, .top, .top, .top, .top, .top, .top, .top, .top, .top, .top, .top, .top, .top, .top, .top, x132, .top, .top, .top, .top, .top, .top, x139, .top, .top, .top]
def mi108 : V108 → Fr := fun ⟨x0, x1⟩ => [x0, x1, .tup [], .tup [], .tup [], .tup [], .tup [], .tup [], .tup [], .tup [], .tup [], .tup [], .tup [], .tup [], .tup [], .tup [], .tup [], .tup [], .tup [], .tup [], .tup [], .tup [], .tup [], .tup [], .tup [], .tup [], .tup [], .tup [], .tup [], .tup [], .tup [], .tup [], .tup [], .tup [], .tup [], .tup [], .tup [], .tup [], .tup [], .tup [], .tup [], .tup [], .tup [], .tup [], .tup [], .tup [], .tup [], .tup [], .tup [], .tup [], .tup [], .tup [], .tup [], .tup [], .tup [], .tup [], .tup [], .tup [], .tup [], .tup [], .tup [], .tup [], .tup [], .tup [], .tup [], .tup [], .tup [], .tup [], .tup [], .tup [], .tup [], .tup [], .tup [], .tup [], .tup [], .tup [], .tup [], .tup [], .tup [], .tup [], .tup [], .tup [], .tup [], .tup [], .tup [], .tup [], .tup [], .tup [], .tup [], .tup [], .tup [], .tup [], .tup [], .tup [], .tup [], .tup [], .tup [], .tup [], .tup [], .tup [], .tup [], .tup [], .tup [], .tup [], .tup [], .tup [], .tup [], .tup [], .tup [], .tup [], .tup [], .tup [], .tup [], .tup [], .tup [], .tup [], .tup [], .tup [], .tup [], .tup [], .tup [], .tup [], .tup [], .tup [], .tup [], .tup [], .tup [], .tup [], .tup [], .tup [], .tup [], .tup [], .tup [], .tup [], .tup [], .tup [], .tup [], .tup [], .tup [], .tup [], .tup [], .tup [], .tup []]
noncomputable def S108r0 {R : Type} (call : Nat → List AV → M AV) : V108 → Nat → AS → (W108 → AS → Option R) → Option R := @V108.rec (fun _ => Nat → AS → (W108 → AS → Option R) → Option R) fun x0 x1 base s k =>
  k (.mk x0 x1 .top .top .top .top .top .top .top .top .top .top .top .top .top .top .top .top .top .top .top .top .top .top) s
noncomputable def S108r1 {R : Type} (call : Nat → List AV → M AV) : W108 → Nat → AS → (W108 → AS → Option R) → Option R := @W108.rec (fun _ => Nat → AS → (W108 → AS → Option R) → Option R) fun x0 x1 x4 x5 x6 x7 x8 x9 x10 x11 x12 x13 x16 x24 x31 x36 x59 x64 x73 x93 x107 x114 x132 x139 base s k =>
  bndP (lenAQ true x1) fun y0 =>
  k (.mk x0 x1 .top y0 .top .top .top .top .top .top .top .top .top .top .top .top .top .top .top .top .top .top .top .top) s
noncomputable def S108r2 {R : Type} (call : Nat → List AV → M AV) : W108 → Nat → AS → (W108 → AS → Option R) → Option R := @W108.rec (fun _ => Nat → AS → (W108 → AS → Option R) → Option R) fun x0 x1 x4 x5 x6 x7 x8 x9 x10 x11 x12 x13 x16 x24 x31 x36 x59 x64 x73 x93 x107 x114 x132 x139 base s k =>
  bndP (binQ .eql x5 ((.int .i64 0) : AV)) fun y0 =>
  bndO (gd (wantG y0 false) (fun s => (pureO (some x1) s)) s) fun y1 s =>
  bndO (gd (wantG y0 false) (fun s => (pureO (some x0) s)) s) fun y2 s =>
  bndO (gd (wantG y0 false) (fun s => (pureO (binQ .eql y1 y2) s)) s) fun y3 s =>
  bndP (pickA y0 ((.bool true) : AV) y3) fun y4 =>
  k (.mk x0 x1 .top x5 .top .top .top .top .top .top .top .top y4 .top .top .top .top .top .top .top .top .top .top .top) s
noncomputable def S108r3 {R : Type} (call : Nat → List AV → M AV) : W108 → Nat → AS → (W108 → AS → Option R) → Option R := @W108.rec (fun _ => Nat → AS → (W108 → AS → Option R) → Option R) fun x0 x1 x4 x5 x6 x7 x8 x9 x10 x11 x12 x13 x16 x24 x31 x36 x59 x64 x73 x93 x107 x114 x132 x139 base s k =>
  k (.mk .top .top ((.int .i64 0) : AV) .top .top .top .top .top .top .top .top .top .top .top .top .top .top .top .top .top .top .top .top .top) s
noncomputable def S108r4 {R : Type} (call : Nat → List AV → M AV) : W108 → Nat → AS → (W108 → AS → Option R) → Option R := @W108.rec (fun _ => Nat → AS → (W108 → AS → Option R) → Option R) fun x0 x1 x4 x5 x6 x7 x8 x9 x10 x11 x12 x13 x16 x24 x31 x36 x59 x64 x73 x93 x107 x114 x132 x139 base s k =>
  bndP (binQ .eql x5 ((.int .i64 1) : AV)) fun y0 =>
  k (.mk x0 x1 .top x5 .top .top .top .top .top .top .top .top .top y0 .top .top .top .top .top .top .top .top .top .top) s
noncomputable def S108r5 {R : Type} (call : Nat → List AV → M AV) : W108 → Nat → AS → (W108 → AS → Option R) → Option R := @W108.rec (fun _ => Nat → AS → (W108 → AS → Option R) → Option R) fun x0 x1 x4 x5 x6 x7 x8 x9 x10 x11 x12 x13 x16 x24 x31 x36 x59 x64 x73 x93 x107 x114 x132 x139 base s k =>
  bndP (idxsQ x1 ((.int .i64 0) : AV)) fun y0 =>
  bndO (quietQ call 117 [x0, y0] s) fun y1 s =>
  k (.mk .top .top y1 .top .top .top .top .top .top .top .top .top .top .top .top .top .top .top .top .top .top .top .top .top) s
noncomputable def S108r6 {R : Type} (call : Nat → List AV → M AV) : W108 → Nat → AS → (W108 → AS → Option R) → Option R := @W108.rec (fun _ => Nat → AS → (W108 → AS → Option R) → Option R) fun x0 x1 x4 x5 x6 x7 x8 x9 x10 x11 x12 x13 x16 x24 x31 x36 x59 x64 x73 x93 x107 x114 x132 x139 base s k =>
  bndP (lenAQ true x0) fun y0 =>
  bndP (binQ .geq x5 y0) fun y1 =>
  k (.mk x0 x1 .top x5 .top .top .top .top .top .top .top .top .top .top y1 .top .top .top .top .top .top .top .top .top) s
noncomputable def S108r7 {R : Type} (call : Nat → List AV → M AV) : W108 → Nat → AS → (W108 → AS → Option R) → Option R := @W108.rec (fun _ => Nat → AS → (W108 → AS → Option R) → Option R) fun x0 x1 x4 x5 x6 x7 x8 x9 x10 x11 x12 x13 x16 x24 x31 x36 x59 x64 x73 x93 x107 x114 x132 x139 base s k =>
  k (.mk .top .top ((.int .i64 (-1)) : AV) .top .top .top .top .top .top .top .top .top .top .top .top .top .top .top .top .top .top .top .top .top) s
noncomputable def S108r8 {R : Type} (call : Nat → List AV → M AV) : W108 → Nat → AS → (W108 → AS → Option R) → Option R := @W108.rec (fun _ => Nat → AS → (W108 → AS → Option R) → Option R) fun x0 x1 x4 x5 x6 x7 x8 x9 x10 x11 x12 x13 x16 x24 x31 x36 x59 x64 x73 x93 x107 x114 x132 x139 base s k =>
  bndO (none) fun y0 s =>
  bndP (binQ .leq x5 y0) fun y1 =>
  bndO (gd (wantG y1 true) (fun s => (pureO (some x0) s)) s) fun y2 s =>
  bndO (gd (wantG y1 true) (fun s => (pureO (lenAQ true y2) s)) s) fun y3 s =>
  bndO (gd (wantG y1 true) (fun s => (pureO (binQ .leq y3 ((.int .i64 64) : AV)) s)) s) fun y4 s =>
  bndP (pickA y1 y4 ((.bool false) : AV)) fun y5 =>
  k (.mk x0 x1 .top x5 .top .top .top .top .top .top .top .top .top .top .top y5 .top .top .top .top .top .top .top .top) s
noncomputable def S108r9 {R : Type} (call : Nat → List AV → M AV) : W108 → Nat → AS → (W108 → AS → Option R) → Option R := @W108.rec (fun _ => Nat → AS → (W108 → AS → Option R) → Option R) fun x0 x1 x4 x5 x6 x7 x8 x9 x10 x11 x12 x13 x16 x24 x31 x36 x59 x64 x73 x93 x107 x114 x132 x139 base s k =>
  bndO (quietQ call 118 [x0, x1] s) fun y0 s =>
  k (.mk .top .top y0 .top .top .top .top .top .top .top .top .top .top .top .top .top .top .top .top .top .top .top .top .top) s
noncomputable def S108r10 {R : Type} (call : Nat → List AV → M AV) : W108 → Nat → AS → (W108 → AS → Option R) → Option R := @W108.rec (fun _ => Nat → AS → (W108 → AS → Option R) → Option R) fun x0 x1 x4 x5 x6 x7 x8 x9 x10 x11 x12 x13 x16 x24 x31 x36 x59 x64 x73 x93 x107 x114 x132 x139 base s k =>
  bndP (idxsQ x1 ((.int .i64 0) : AV)) fun y0 =>
  k (.mk x0 x1 .top x5 y0 .top .top .top .top .top .top .top .top .top .top .top .top .top .top .top .top .top .top .top) s
noncomputable def S108r11 {R : Type} (call : Nat → List AV → M AV) : W108 → Nat → AS → (W108 → AS → Option R) → Option R := @W108.rec (fun _ => Nat → AS → (W108 → AS → Option R) → Option R) fun x0 x1 x4 x5 x6 x7 x8 x9 x10 x11 x12 x13 x16 x24 x31 x36 x59 x64 x73 x93 x107 x114 x132 x139 base s k =>
  bndP (idxsQ x1 ((.int .i64 1) : AV)) fun y0 =>
  k (.mk x0 x1 .top x5 x6 y0 .top .top .top .top .top .top .top .top .top .top .top .top .top .top .top .top .top .top) s
noncomputable def S108r12 {R : Type} (call : Nat → List AV → M AV) : W108 → Nat → AS → (W108 → AS → Option R) → Option R := @W108.rec (fun _ => Nat → AS → (W108 → AS → Option R) → Option R) fun x0 x1 x4 x5 x6 x7 x8 x9 x10 x11 x12 x13 x16 x24 x31 x36 x59 x64 x73 x93 x107 x114 x132 x139 base s k =>
  k (.mk x0 x1 .top x5 x6 x7 ((.int .i64 0) : AV) .top .top .top .top .top .top .top .top .top .top .top .top .top .top .top .top .top) s
noncomputable def S108r13 {R : Type} (call : Nat → List AV → M AV) : W108 → Nat → AS → (W108 → AS → Option R) → Option R := @W108.rec (fun _ => Nat → AS → (W108 → AS → Option R) → Option R) fun x0 x1 x4 x5 x6 x7 x8 x9 x10 x11 x12 x13 x16 x24 x31 x36 x59 x64 x73 x93 x107 x114 x132 x139 base s k =>
  bndP (lenAQ true x0) fun y0 =>
  bndP (binQ .sub y0 x5) fun y1 =>
  bndP (binQ .add y1 ((.int .i64 1) : AV)) fun y2 =>
  k (.mk x0 x1 .top x5 x6 x7 x8 y2 .top .top .top .top .top .top .top .top .top .top .top .top .top .top .top .top) s
noncomputable def S108r14 {R : Type} (call : Nat → List AV → M AV) : W108 → Nat → AS → (W108 → AS → Option R) → Option R := @W108.rec (fun _ => Nat → AS → (W108 → AS → Option R) → Option R) fun x0 x1 x4 x5 x6 x7 x8 x9 x10 x11 x12 x13 x16 x24 x31 x36 x59 x64 x73 x93 x107 x114 x132 x139 base s k =>
  k (.mk x0 x1 .top x5 x6 x7 x8 x9 ((.int .i64 0) : AV) .top .top .top .top .top .top .top .top .top .top .top .top .top .top .top) s
noncomputable def S108r15 {R : Type} (call : Nat → List AV → M AV) : W108 → Nat → AS → (W108 → AS → Option R) → Option R := @W108.rec (fun _ => Nat → AS → (W108 → AS → Option R) → Option R) fun x0 x1 x4 x5 x6 x7 x8 x9 x10 x11 x12 x13 x16 x24 x31 x36 x59 x64 x73 x93 x107 x114 x132 x139 base s k =>
  bndP (binQ .lss x8 x9) fun y0 =>
  k (.mk x0 x1 .top x5 x6 x7 x8 x9 x10 .top .top .top .top .top .top .top y0 .top .top .top .top .top .top .top) s
noncomputable def S108r16 {R : Type} (call : Nat → List AV → M AV) : W108 → Nat → AS → (W108 → AS → Option R) → Option R := @W108.rec (fun _ => Nat → AS → (W108 → AS → Option R) → Option R) fun x0 x1 x4 x5 x6 x7 x8 x9 x10 x11 x12 x13 x16 x24 x31 x36 x59 x64 x73 x93 x107 x114 x132 x139 base s k =>
  bndP (idxsQ x0 x8) fun y0 =>
  bndP (binQ .neq y0 x6) fun y1 =>
  k (.mk x0 x1 .top x5 x6 x7 x8 x9 x10 .top .top .top .top .top .top .top .top y1 .top .top .top .top .top .top) s
noncomputable def S108r17 {R : Type} (call : Nat → List AV → M AV) : W108 → Nat → AS → (W108 → AS → Option R) → Option R := @W108.rec (fun _ => Nat → AS → (W108 → AS → Option R) → Option R) fun x0 x1 x4 x5 x6 x7 x8 x9 x10 x11 x12 x13 x16 x24 x31 x36 x59 x64 x73 x93 x107 x114 x132 x139 base s k =>
  bndP (binQ .add x8 ((.int .i64 1) : AV)) fun y0 =>
  bndP (cutsQ x0 (some y0) (some x9)) fun y1 =>
  bndO (quietQ call 117 [y1, x6] s) fun y2 s =>
  k (.mk x0 x1 .top x5 x6 x7 x8 x9 x10 y2 .top .top .top .top .top .top .top .top .top .top .top .top .top .top) s
noncomputable def S108r18 {R : Type} (call : Nat → List AV → M AV) : W108 → Nat → AS → (W108 → AS → Option R) → Option R := @W108.rec (fun _ => Nat → AS → (W108 → AS → Option R) → Option R) fun x0 x1 x4 x5 x6 x7 x8 x9 x10 x11 x12 x13 x16 x24 x31 x36 x59 x64 x73 x93 x107 x114 x132 x139 base s k =>
  bndP (binQ .lss x11 ((.int .i64 0) : AV)) fun y0 =>
  k (.mk x0 x1 .top x5 x6 x7 x8 x9 x10 x11 .top .top .top .top .top .top .top .top y0 .top .top .top .top .top) s
noncomputable def S108r19 {R : Type} (call : Nat → List AV → M AV) : W108 → Nat → AS → (W108 → AS → Option R) → Option R := @W108.rec (fun _ => Nat → AS → (W108 → AS → Option R) → Option R) fun x0 x1 x4 x5 x6 x7 x8 x9 x10 x11 x12 x13 x16 x24 x31 x36 x59 x64 x73 x93 x107 x114 x132 x139 base s k =>
  k (.mk .top .top ((.int .i64 (-1)) : AV) .top .top .top .top .top .top .top .top .top .top .top .top .top .top .top .top .top .top .top .top .top) s
noncomputable def S108r20 {R : Type} (call : Nat → List AV → M AV) : W108 → Nat → AS → (W108 → AS → Option R) → Option R := @W108.rec (fun _ => Nat → AS → (W108 → AS → Option R) → Option R) fun x0 x1 x4 x5 x6 x7 x8 x9 x10 x11 x12 x13 x16 x24 x31 x36 x59 x64 x73 x93 x107 x114 x132 x139 base s k =>
  bndP (binQ .add x11 ((.int .i64 1) : AV)) fun y0 =>
  bndP (binQ .add x8 y0) fun y1 =>
  k (.mk x0 x1 .top x5 x6 x7 y1 x9 x10 .top .top .top .top .top .top .top .top .top .top .top .top .top .top .top) s
noncomputable def S108r21 {R : Type} (call : Nat → List AV → M AV) : W108 → Nat → AS → (W108 → AS → Option R) → Option R := @W108.rec (fun _ => Nat → AS → (W108 → AS → Option R) → Option R) fun x0 x1 x4 x5 x6 x7 x8 x9 x10 x11 x12 x13 x16 x24 x31 x36 x59 x64 x73 x93 x107 x114 x132 x139 base s k =>
  bndP (binQ .add x8 ((.int .i64 1) : AV)) fun y0 =>
  bndP (idxsQ x0 y0) fun y1 =>
  bndP (binQ .eql y1 x7) fun y2 =>
  bndO (gd (wantG y2 true) (fun s => (pureO (some x0) s)) s) fun y3 s =>
  bndO (gd (wantG y2 true) (fun s => (pureO (some x8) s)) s) fun y4 s =>
  bndO (gd (wantG y2 true) (fun s => (pureO (some x8) s)) s) fun y5 s =>
  bndO (gd (wantG y2 true) (fun s => (pureO (some x5) s)) s) fun y6 s =>
  bndO (gd (wantG y2 true) (fun s => (pureO (binQ .add y5 y6) s)) s) fun y7 s =>
  bndO (gd (wantG y2 true) (fun s => (pureO (cutsQ y3 (some y4) (some y7)) s)) s) fun y8 s =>
  bndO (gd (wantG y2 true) (fun s => (pureO (some x1) s)) s) fun y9 s =>
  bndO (gd (wantG y2 true) (fun s => (pureO (binQ .eql y8 y9) s)) s) fun y10 s =>
  bndP (pickA y2 y10 ((.bool false) : AV)) fun y11 =>
  k (.mk x0 x1 .top x5 x6 x7 x8 x9 x10 .top .top .top .top .top .top .top .top .top .top y11 .top .top .top .top) s
noncomputable def S108r22 {R : Type} (call : Nat → List AV → M AV) : W108 → Nat → AS → (W108 → AS → Option R) → Option R := @W108.rec (fun _ => Nat → AS → (W108 → AS → Option R) → Option R) fun x0 x1 x4 x5 x6 x7 x8 x9 x10 x11 x12 x13 x16 x24 x31 x36 x59 x64 x73 x93 x107 x114 x132 x139 base s k =>
  k (.mk .top .top x8 .top .top .top .top .top .top .top .top .top .top .top .top .top .top .top .top .top .top .top .top .top) s
noncomputable def S108r23 {R : Type} (call : Nat → List AV → M AV) : W108 → Nat → AS → (W108 → AS → Option R) → Option R := @W108.rec (fun _ => Nat → AS → (W108 → AS → Option R) → Option R) fun x0 x1 x4 x5 x6 x7 x8 x9 x10 x11 x12 x13 x16 x24 x31 x36 x59 x64 x73 x93 x107 x114 x132 x139 base s k =>
  bndP (binQ .add x8 ((.int .i64 1) : AV)) fun y0 =>
  k (.mk x0 x1 .top x5 x6 x7 y0 x9 x10 .top .top .top .top .top .top .top .top .top .top .top .top .top .top .top) s
noncomputable def S108r24 {R : Type} (call : Nat → List AV → M AV) : W108 → Nat → AS → (W108 → AS → Option R) → Option R := @W108.rec (fun _ => Nat → AS → (W108 → AS → Option R) → Option R) fun x0 x1 x4 x5 x6 x7 x8 x9 x10 x11 x12 x13 x16 x24 x31 x36 x59 x64 x73 x93 x107 x114 x132 x139 base s k =>
  bndP (binQ .add x10 ((.int .i64 1) : AV)) fun y0 =>
  k (.mk x0 x1 .top x5 x6 x7 x8 x9 y0 .top .top .top .top .top .top .top .top .top .top .top .top .top .top .top) s
noncomputable def S108r25 {R : Type} (call : Nat → List AV → M AV) : W108 → Nat → AS → (W108 → AS → Option R) → Option R := @W108.rec (fun _ => Nat → AS → (W108 → AS → Option R) → Option R) fun x0 x1 x4 x5 x6 x7 x8 x9 x10 x11 x12 x13 x16 x24 x31 x36 x59 x64 x73 x93 x107 x114 x132 x139 base s k =>
  bndO (none) fun y0 s =>
  bndP (binQ .leq x5 y0) fun y1 =>
  bndO (gd (wantG y1 true) (fun s => (pureO (some x10) s)) s) fun y2 s =>
  bndO (gd (wantG y1 true) (fun s => (pureO (some x8) s)) s) fun y3 s =>
  bndO (gd (wantG y1 true) (fun s => (quietQ call 119 [y3] s)) s) fun y4 s =>
  bndO (gd (wantG y1 true) (fun s => (pureO (binQ .gtr y2 y4) s)) s) fun y5 s =>
  bndP (pickA y1 y5 ((.bool false) : AV)) fun y6 =>
  k (.mk x0 x1 .top x5 x6 x7 x8 x9 x10 .top .top .top .top .top .top .top .top .top .top .top y6 .top .top .top) s
noncomputable def S108r26 {R : Type} (call : Nat → List AV → M AV) : W108 → Nat → AS → (W108 → AS → Option R) → Option R := @W108.rec (fun _ => Nat → AS → (W108 → AS → Option R) → Option R) fun x0 x1 x4 x5 x6 x7 x8 x9 x10 x11 x12 x13 x16 x24 x31 x36 x59 x64 x73 x93 x107 x114 x132 x139 base s k =>
  bndP (cutsQ x0 (some x8) none) fun y0 =>
  bndO (quietQ call 118 [y0, x1] s) fun y1 s =>
  k (.mk .top .top .top .top .top .top x8 .top .top .top y1 .top .top .top .top .top .top .top .top .top .top .top .top .top) s
noncomputable def S108r27 {R : Type} (call : Nat → List AV → M AV) : W108 → Nat → AS → (W108 → AS → Option R) → Option R := @W108.rec (fun _ => Nat → AS → (W108 → AS → Option R) → Option R) fun x0 x1 x4 x5 x6 x7 x8 x9 x10 x11 x12 x13 x16 x24 x31 x36 x59 x64 x73 x93 x107 x114 x132 x139 base s k =>
  bndP (binQ .geq x12 ((.int .i64 0) : AV)) fun y0 =>
  k (.mk .top .top .top .top .top .top x8 .top .top .top x12 .top .top .top .top .top .top .top .top .top .top y0 .top .top) s
noncomputable def S108r28 {R : Type} (call : Nat → List AV → M AV) : W108 → Nat → AS → (W108 → AS → Option R) → Option R := @W108.rec (fun _ => Nat → AS → (W108 → AS → Option R) → Option R) fun x0 x1 x4 x5 x6 x7 x8 x9 x10 x11 x12 x13 x16 x24 x31 x36 x59 x64 x73 x93 x107 x114 x132 x139 base s k =>
  bndP (binQ .add x12 x8) fun y0 =>
  k (.mk .top .top y0 .top .top .top .top .top .top .top .top .top .top .top .top .top .top .top .top .top .top .top .top .top) s
noncomputable def S108r29 {R : Type} (call : Nat → List AV → M AV) : W108 → Nat → AS → (W108 → AS → Option R) → Option R := @W108.rec (fun _ => Nat → AS → (W108 → AS → Option R) → Option R) fun x0 x1 x4 x5 x6 x7 x8 x9 x10 x11 x12 x13 x16 x24 x31 x36 x59 x64 x73 x93 x107 x114 x132 x139 base s k =>
  k (.mk .top .top ((.int .i64 (-1)) : AV) .top .top .top .top .top .top .top .top .top .top .top .top .top .top .top .top .top .top .top .top .top) s
noncomputable def S108r30 {R : Type} (call : Nat → List AV → M AV) : W108 → Nat → AS → (W108 → AS → Option R) → Option R := @W108.rec (fun _ => Nat → AS → (W108 → AS → Option R) → Option R) fun x0 x1 x4 x5 x6 x7 x8 x9 x10 x11 x12 x13 x16 x24 x31 x36 x59 x64 x73 x93 x107 x114 x132 x139 base s k =>
  bndO (none) fun y0 s =>
  bndP (binQ .gtr x5 y0) fun y1 =>
  bndO (gd (wantG y1 true) (fun s => (pureO (some x10) s)) s) fun y2 s =>
  bndO (gd (wantG y1 true) (fun s => (pureO (some x8) s)) s) fun y3 s =>
  bndO (gd (wantG y1 true) (fun s => (pureO (binQ .shr y3 ((.int .u64 4) : AV)) s)) s) fun y4 s =>
  bndO (gd (wantG y1 true) (fun s => (pureO (binQ .add ((.int .i64 4) : AV) y4) s)) s) fun y5 s =>
  bndO (gd (wantG y1 true) (fun s => (pureO (binQ .geq y2 y5) s)) s) fun y6 s =>
  bndP (pickA y1 y6 ((.bool false) : AV)) fun y7 =>
  bndO (gd (wantG y7 true) (fun s => (pureO (some x8) s)) s) fun y8 s =>
  bndO (gd (wantG y7 true) (fun s => (pureO (some x9) s)) s) fun y9 s =>
  bndO (gd (wantG y7 true) (fun s => (pureO (binQ .lss y8 y9) s)) s) fun y10 s =>
  bndP (pickA y7 y10 ((.bool false) : AV)) fun y11 =>
  k (.mk x0 x1 .top x5 x6 x7 x8 x9 x10 .top .top .top .top .top .top .top .top .top .top .top .top .top y11 .top) s
noncomputable def S108r31 {R : Type} (call : Nat → List AV → M AV) : W108 → Nat → AS → (W108 → AS → Option R) → Option R := @W108.rec (fun _ => Nat → AS → (W108 → AS → Option R) → Option R) fun x0 x1 x4 x5 x6 x7 x8 x9 x10 x11 x12 x13 x16 x24 x31 x36 x59 x64 x73 x93 x107 x114 x132 x139 base s k =>
  bndP (cutsQ x0 (some x8) none) fun y0 =>
  bndO (quietQ call 120 [y0, x1] s) fun y1 s =>
  k (.mk .top .top .top .top .top .top x8 .top .top .top .top y1 .top .top .top .top .top .top .top .top .top .top .top .top) s
noncomputable def S108r32 {R : Type} (call : Nat → List AV → M AV) : W108 → Nat → AS → (W108 → AS → Option R) → Option R := @W108.rec (fun _ => Nat → AS → (W108 → AS → Option R) → Option R) fun x0 x1 x4 x5 x6 x7 x8 x9 x10 x11 x12 x13 x16 x24 x31 x36 x59 x64 x73 x93 x107 x114 x132 x139 base s k =>
  bndP (binQ .lss x13 ((.int .i64 0) : AV)) fun y0 =>
  k (.mk .top .top .top .top .top .top x8 .top .top .top .top x13 .top .top .top .top .top .top .top .top .top .top .top y0) s
noncomputable def S108r33 {R : Type} (call : Nat → List AV → M AV) : W108 → Nat → AS → (W108 → AS → Option R) → Option R := @W108.rec (fun _ => Nat → AS → (W108 → AS → Option R) → Option R) fun x0 x1 x4 x5 x6 x7 x8 x9 x10 x11 x12 x13 x16 x24 x31 x36 x59 x64 x73 x93 x107 x114 x132 x139 base s k =>
  k (.mk .top .top ((.int .i64 (-1)) : AV) .top .top .top .top .top .top .top .top .top .top .top .top .top .top .top .top .top .top .top .top .top) s
noncomputable def S108r34 {R : Type} (call : Nat → List AV → M AV) : W108 → Nat → AS → (W108 → AS → Option R) → Option R := @W108.rec (fun _ => Nat → AS → (W108 → AS → Option R) → Option R) fun x0 x1 x4 x5 x6 x7 x8 x9 x10 x11 x12 x13 x16 x24 x31 x36 x59 x64 x73 x93 x107 x114 x132 x139 base s k =>
  bndP (binQ .add x8 x13) fun y0 =>
  k (.mk .top .top y0 .top .top .top .top .top .top .top .top .top .top .top .top .top .top .top .top .top .top .top .top .top) s
noncomputable def S108b35 {R : Type} (call : Nat → List AV → M AV) (fuel : Nat) : SC W108 W108 R := sSeq (sSeq (sReg 3 (S108r15 call)) (sCond (@W108.rec (fun _ => AV) fun _ _ _ _ _ _ _ _ _ _ _ _ _ _ _ _ x59 _ _ _ _ _ _ _ => x59) (sSkip) (sExit 1))) (sBlock 2 (sSeq (sSeq (sReg 5 (S108r16 call)) (sCond (@W108.rec (fun _ => AV) fun _ _ _ _ _ _ _ _ _ _ _ _ _ _ _ _ _ x64 _ _ _ _ _ _ => x64) (sSeq (sReg 8 (S108r17 call)) (sSeq (sSeq (sReg 2 (S108r18 call)) (sCond (@W108.rec (fun _ => AV) fun _ _ _ _ _ _ _ _ _ _ _ _ _ _ _ _ _ _ x73 _ _ _ _ _ => x73) (sSeq (sReg 1 (S108r19 call)) (sRet)) (sSkip))) (sReg 5 (S108r20 call)))) (sSkip))) (sSeq (sSeq (sReg 16 (S108r21 call)) (sCond (@W108.rec (fun _ => AV) fun _ _ _ _ _ _ _ _ _ _ _ _ _ _ _ _ _ _ _ x93 _ _ _ _ => x93) (sSeq (sReg 2 (S108r22 call)) (sRet)) (sSkip))) (sSeq (sReg 3 (S108r23 call)) (sSeq (sReg 3 (S108r24 call)) (sSeq (sReg 9 (S108r25 call)) (sCond (@W108.rec (fun _ => AV) fun _ _ _ _ _ _ _ _ _ _ _ _ _ _ _ _ _ _ _ _ x107 _ _ _ => x107) (sSeq (sReg 6 (S108r26 call)) (sSeq (sSeq (sReg 2 (S108r27 call)) (sCond (@W108.rec (fun _ => AV) fun _ _ _ _ _ _ _ _ _ _ _ _ _ _ _ _ _ _ _ _ _ x114 _ _ => x114) (sSeq (sReg 4 (S108r28 call)) (sRet)) (sSkip))) (sSeq (sReg 1 (S108r29 call)) (sRet)))) (sSeq (sReg 15 (S108r30 call)) (sCond (@W108.rec (fun _ => AV) fun _ _ _ _ _ _ _ _ _ _ _ _ _ _ _ _ _ _ _ _ _ _ x132 _ => x132) (sSeq (sReg 6 (S108r31 call)) (sSeq (sSeq (sReg 2 (S108r32 call)) (sCond (@W108.rec (fun _ => AV) fun _ _ _ _ _ _ _ _ _ _ _ _ _ _ _ _ _ _ _ _ _ _ _ x139 => x139) (sSeq (sReg 1 (S108r33 call)) (sRet)) (sSkip))) (sSeq (sReg 4 (S108r34 call)) (sRet)))) (sSkip))))))))))
noncomputable def S108r36 {R : Type} (call : Nat → List AV → M AV) : W108 → Nat → AS → (W108 → AS → Option R) → Option R := @W108.rec (fun _ => Nat → AS → (W108 → AS → Option R) → Option R) fun x0 x1 x4 x5 x6 x7 x8 x9 x10 x11 x12 x13 x16 x24 x31 x36 x59 x64 x73 x93 x107 x114 x132 x139 base s k =>
  k (.mk .top .top ((.int .i64 (-1)) : AV) .top .top .top .top .top .top .top .top .top .top .top .top .top .top .top .top .top .top .top .top .top) s
noncomputable def S108c {R : Type} (call : Nat → List AV → M AV) (fuel : Nat) : SC V108 W108 R := sSeq (sReg 1 (S108r0 call)) (sSeq (sReg 3 (S108r1 call)) (sSeq (sBlock 0 (sSeq (sReg 8 (S108r2 call)) (sCond (@W108.rec (fun _ => AV) fun _ _ _ _ _ _ _ _ _ _ _ _ x16 _ _ _ _ _ _ _ _ _ _ _ => x16) (sSeq (sReg 1 (S108r3 call)) (sRet)) (sSeq (sReg 3 (S108r4 call)) (sCond (@W108.rec (fun _ => AV) fun _ _ _ _ _ _ _ _ _ _ _ _ _ x24 _ _ _ _ _ _ _ _ _ _ => x24) (sSeq (sReg 5 (S108r5 call)) (sRet)) (sSeq (sReg 5 (S108r6 call)) (sCond (@W108.rec (fun _ => AV) fun _ _ _ _ _ _ _ _ _ _ _ _ _ _ x31 _ _ _ _ _ _ _ _ _ => x31) (sSeq (sReg 1 (S108r7 call)) (sRet)) (sSeq (sReg 9 (S108r8 call)) (sCond (@W108.rec (fun _ => AV) fun _ _ _ _ _ _ _ _ _ _ _ _ _ _ _ x36 _ _ _ _ _ _ _ _ => x36) (sSeq (sReg 4 (S108r9 call)) (sRet)) (sSkip)))))))))) (sSeq (sReg 3 (S108r10 call)) (sSeq (sReg 3 (S108r11 call)) (sSeq (sReg 1 (S108r12 call)) (sSeq (sReg 6 (S108r13 call)) (sSeq (sReg 1 (S108r14 call)) (sSeq (sBlock 1 (sLoop fuel (S108b35 call fuel))) (sSeq (sReg 1 (S108r36 call)) (sRet))))))))))
noncomputable def S108e : Ex → W108 → AS → Option (AV × AS) := fun e w s => (@W108.rec (fun _ => Option (AV × AS)) fun _ _ x4 _ _ _ _ _ _ _ _ _ _ _ _ _ _ _ _ _ _ _ _ _ => @Ex.rec (fun _ => Option (AV × AS)) (some (x4, s)) (fun _ => none) (some (x4, s)) e) w
noncomputable def S108 (call : Nat → List AV → M AV) (fuel : Nat) (args : List AV) (s : AS) : Option (AV × AS) := match args with
  | [x0, x1] => S108c call fuel (.mk x0 x1) s S108e
  | _ => none
theorem S108_sim (call : Nat → List AV → M AV) (fuel : Nat) : Sim (R := AV × AS) call fuel mi108 mo108 A108.code (S108c call fuel) := by
  refine sim_seq (sim_reg (fun ⟨x0, x1⟩ _ _ _ => by kernel_rfl)) (sim_seq (sim_reg (fun ⟨x0, x1, x4, x5, x6, x7, x8, x9, x10, x11, x12, x13, x16, x24, x31, x36, x59, x64, x73, x93, x107, x114, x132, x139⟩ _ _ _ => by kernel_rfl)) (sim_seq (sim_block (sim_seq (sim_reg (fun ⟨x0, x1, x4, x5, x6, x7, x8, x9, x10, x11, x12, x13, x16, x24, x31, x36, x59, x64, x73, x93, x107, x114, x132, x139⟩ _ _ _ => by kernel_rfl)) (sim_cond (fun ⟨x0, x1, x4, x5, x6, x7, x8, x9, x10, x11, x12, x13, x16, x24, x31, x36, x59, x64, x73, x93, x107, x114, x132, x139⟩ => by kernel_rfl) (sim_seq (sim_reg (fun ⟨x0, x1, x4, x5, x6, x7, x8, x9, x10, x11, x12, x13, x16, x24, x31, x36, x59, x64, x73, x93, x107, x114, x132, x139⟩ _ _ _ => by kernel_rfl)) (sim_ret)) (sim_seq (sim_reg (fun ⟨x0, x1, x4, x5, x6, x7, x8, x9, x10, x11, x12, x13, x16, x24, x31, x36, x59, x64, x73, x93, x107, x114, x132, x139⟩ _ _ _ => by kernel_rfl)) (sim_cond (fun ⟨x0, x1, x4, x5, x6, x7, x8, x9, x10, x11, x12, x13, x16, x24, x31, x36, x59, x64, x73, x93, x107, x114, x132, x139⟩ => by kernel_rfl) (sim_seq (sim_reg (fun ⟨x0, x1, x4, x5, x6, x7, x8, x9, x10, x11, x12, x13, x16, x24, x31, x36, x59, x64, x73, x93, x107, x114, x132, x139⟩ _ _ _ => by kernel_rfl)) (sim_ret)) (sim_seq (sim_reg (fun ⟨x0, x1, x4, x5, x6, x7, x8, x9, x10, x11, x12, x13, x16, x24, x31, x36, x59, x64, x73, x93, x107, x114, x132, x139⟩ _ _ _ => by kernel_rfl)) (sim_cond (fun ⟨x0, x1, x4, x5, x6, x7, x8, x9, x10, x11, x12, x13, x16, x24, x31, x36, x59, x64, x73, x93, x107, x114, x132, x139⟩ => by kernel_rfl) (sim_seq (sim_reg (fun ⟨x0, x1, x4, x5, x6, x7, x8, x9, x10, x11, x12, x13, x16, x24, x31, x36, x59, x64, x73, x93, x107, x114, x132, x139⟩ _ _ _ => by kernel_rfl)) (sim_ret)) (sim_seq (sim_reg (fun ⟨x0, x1, x4, x5, x6, x7, x8, x9, x10, x11, x12, x13, x16, x24, x31, x36, x59, x64, x73, x93, x107, x114, x132, x139⟩ _ _ _ => by kernel_rfl)) (sim_cond (fun ⟨x0, x1, x4, x5, x6, x7, x8, x9, x10, x11, x12, x13, x16, x24, x31, x36, x59, x64, x73, x93, x107, x114, x132, x139⟩ => by kernel_rfl) (sim_seq (sim_reg (fun ⟨x0, x1, x4, x5, x6, x7, x8, x9, x10, x11, x12, x13, x16, x24, x31, x36, x59, x64, x73, x93, x107, x114, x132, x139⟩ _ _ _ => by kernel_rfl)) (sim_ret)) (sim_skip)))))))))) (sim_seq (sim_reg (fun ⟨x0, x1, x4, x5, x6, x7, x8, x9, x10, x11, x12, x13, x16, x24, x31, x36, x59, x64, x73, x93, x107, x114, x132, x139⟩ _ _ _ => by kernel_rfl)) (sim_seq (sim_reg (fun ⟨x0, x1, x4, x5, x6, x7, x8, x9, x10, x11, x12, x13, x16, x24, x31, x36, x59, x64, x73, x93, x107, x114, x132, x139⟩ _ _ _ => by kernel_rfl)) (sim_seq (sim_reg (fun ⟨x0, x1, x4, x5, x6, x7, x8, x9, x10, x11, x12, x13, x16, x24, x31, x36, x59, x64, x73, x93, x107, x114, x132, x139⟩ _ _ _ => by kernel_rfl)) (sim_seq (sim_reg (fun ⟨x0, x1, x4, x5, x6, x7, x8, x9, x10, x11, x12, x13, x16, x24, x31, x36, x59, x64, x73, x93, x107, x114, x132, x139⟩ _ _ _ => by kernel_rfl)) (sim_seq (sim_reg (fun ⟨x0, x1, x4, x5, x6, x7, x8, x9, x10, x11, x12, x13, x16, x24, x31, x36, x59, x64, x73, x93, x107, x114, x132, x139⟩ _ _ _ => by kernel_rfl)) (sim_seq (sim_block (sim_loop (sim_seq (sim_seq (sim_reg (fun ⟨x0, x1, x4, x5, x6, x7, x8, x9, x10, x11, x12, x13, x16, x24, x31, x36, x59, x64, x73, x93, x107, x114, x132, x139⟩ _ _ _ => by kernel_rfl)) (sim_cond (fun ⟨x0, x1, x4, x5, x6, x7, x8, x9, x10, x11, x12, x13, x16, x24, x31, x36, x59, x64, x73, x93, x107, x114, x132, x139⟩ => by kernel_rfl) (sim_skip) (sim_exit))) (sim_block (sim_seq (sim_seq (sim_reg (fun ⟨x0, x1, x4, x5, x6, x7, x8, x9, x10, x11, x12, x13, x16, x24, x31, x36, x59, x64, x73, x93, x107, x114, x132, x139⟩ _ _ _ => by kernel_rfl)) (sim_cond (fun ⟨x0, x1, x4, x5, x6, x7, x8, x9, x10, x11, x12, x13, x16, x24, x31, x36, x59, x64, x73, x93, x107, x114, x132, x139⟩ => by kernel_rfl) (sim_seq (sim_reg (fun ⟨x0, x1, x4, x5, x6, x7, x8, x9, x10, x11, x12, x13, x16, x24, x31, x36, x59, x64, x73, x93, x107, x114, x132, x139⟩ _ _ _ => by kernel_rfl)) (sim_seq (sim_seq (sim_reg (fun ⟨x0, x1, x4, x5, x6, x7, x8, x9, x10, x11, x12, x13, x16, x24, x31, x36, x59, x64, x73, x93, x107, x114, x132, x139⟩ _ _ _ => by kernel_rfl)) (sim_cond (fun ⟨x0, x1, x4, x5, x6, x7, x8, x9, x10, x11, x12, x13, x16, x24, x31, x36, x59, x64, x73, x93, x107, x114, x132, x139⟩ => by kernel_rfl) (sim_seq (sim_reg (fun ⟨x0, x1, x4, x5, x6, x7, x8, x9, x10, x11, x12, x13, x16, x24, x31, x36, x59, x64, x73, x93, x107, x114, x132, x139⟩ _ _ _ => by kernel_rfl)) (sim_ret)) (sim_skip))) (sim_reg (fun ⟨x0, x1, x4, x5, x6, x7, x8, x9, x10, x11, x12, x13, x16, x24, x31, x36, x59, x64, x73, x93, x107, x114, x132, x139⟩ _ _ _ => by kernel_rfl)))) (sim_skip))) (sim_seq (sim_seq (sim_reg (fun ⟨x0, x1, x4, x5, x6, x7, x8, x9, x10, x11, x12, x13, x16, x24, x31, x36, x59, x64, x73, x93, x107, x114, x132, x139⟩ _ _ _ => by kernel_rfl)) (sim_cond (fun ⟨x0, x1, x4, x5, x6, x7, x8, x9, x10, x11, x12, x13, x16, x24, x31, x36, x59, x64, x73, x93, x107, x114, x132, x139⟩ => by kernel_rfl) (sim_seq (sim_reg (fun ⟨x0, x1, x4, x5, x6, x7, x8, x9, x10, x11, x12, x13, x16, x24, x31, x36, x59, x64, x73, x93, x107, x114, x132, x139⟩ _ _ _ => by kernel_rfl)) (sim_ret)) (sim_skip))) (sim_seq (sim_reg (fun ⟨x0, x1, x4, x5, x6, x7, x8, x9, x10, x11, x12, x13, x16, x24, x31, x36, x59, x64, x73, x93, x107, x114, x132, x139⟩ _ _ _ => by kernel_rfl)) (sim_seq (sim_reg (fun ⟨x0, x1, x4, x5, x6, x7, x8, x9, x10, x11, x12, x13, x16, x24, x31, x36, x59, x64, x73, x93, x107, x114, x132, x139⟩ _ _ _ => by kernel_rfl)) (sim_seq (sim_reg (fun ⟨x0, x1, x4, x5, x6, x7, x8, x9, x10, x11, x12, x13, x16, x24, x31, x36, x59, x64, x73, x93, x107, x114, x132, x139⟩ _ _ _ => by kernel_rfl)) (sim_cond (fun ⟨x0, x1, x4, x5, x6, x7, x8, x9, x10, x11, x12, x13, x16, x24, x31, x36, x59, x64, x73, x93, x107, x114, x132, x139⟩ => by kernel_rfl) (sim_seq (sim_reg (fun ⟨x0, x1, x4, x5, x6, x7, x8, x9, x10, x11, x12, x13, x16, x24, x31, x36, x59, x64, x73, x93, x107, x114, x132, x139⟩ _ _ _ => by kernel_rfl)) (sim_seq (sim_seq (sim_reg (fun ⟨x0, x1, x4, x5, x6, x7, x8, x9, x10, x11, x12, x13, x16, x24, x31, x36, x59, x64, x73, x93, x107, x114, x132, x139⟩ _ _ _ => by kernel_rfl)) (sim_cond (fun ⟨x0, x1, x4, x5, x6, x7, x8, x9, x10, x11, x12, x13, x16, x24, x31, x36, x59, x64, x73, x93, x107, x114, x132, x139⟩ => by kernel_rfl) (sim_seq (sim_reg (fun ⟨x0, x1, x4, x5, x6, x7, x8, x9, x10, x11, x12, x13, x16, x24, x31, x36, x59, x64, x73, x93, x107, x114, x132, x139⟩ _ _ _ => by kernel_rfl)) (sim_ret)) (sim_skip))) (sim_seq (sim_reg (fun ⟨x0, x1, x4, x5, x6, x7, x8, x9, x10, x11, x12, x13, x16, x24, x31, x36, x59, x64, x73, x93, x107, x114, x132, x139⟩ _ _ _ => by kernel_rfl)) (sim_ret)))) (sim_seq (sim_reg (fun ⟨x0, x1, x4, x5, x6, x7, x8, x9, x10, x11, x12, x13, x16, x24, x31, x36, x59, x64, x73, x93, x107, x114, x132, x139⟩ _ _ _ => by kernel_rfl)) (sim_cond (fun ⟨x0, x1, x4, x5, x6, x7, x8, x9, x10, x11, x12, x13, x16, x24, x31, x36, x59, x64, x73, x93, x107, x114, x132, x139⟩ => by kernel_rfl) (sim_seq (sim_reg (fun ⟨x0, x1, x4, x5, x6, x7, x8, x9, x10, x11, x12, x13, x16, x24, x31, x36, x59, x64, x73, x93, x107, x114, x132, x139⟩ _ _ _ => by kernel_rfl)) (sim_seq (sim_seq (sim_reg (fun ⟨x0, x1, x4, x5, x6, x7, x8, x9, x10, x11, x12, x13, x16, x24, x31, x36, x59, x64, x73, x93, x107, x114, x132, x139⟩ _ _ _ => by kernel_rfl)) (sim_cond (fun ⟨x0, x1, x4, x5, x6, x7, x8, x9, x10, x11, x12, x13, x16, x24, x31, x36, x59, x64, x73, x93, x107, x114, x132, x139⟩ => by kernel_rfl) (sim_seq (sim_reg (fun ⟨x0, x1, x4, x5, x6, x7, x8, x9, x10, x11, x12, x13, x16, x24, x31, x36, x59, x64, x73, x93, x107, x114, x132, x139⟩ _ _ _ => by kernel_rfl)) (sim_ret)) (sim_skip))) (sim_seq (sim_reg (fun ⟨x0, x1, x4, x5, x6, x7, x8, x9, x10, x11, x12, x13, x16, x24, x31, x36, x59, x64, x73, x93, x107, x114, x132, x139⟩ _ _ _ => by kernel_rfl)) (sim_ret)))) (sim_skip))))))))))))) (sim_seq (sim_reg (fun ⟨x0, x1, x4, x5, x6, x7, x8, x9, x10, x11, x12, x13, x16, x24, x31, x36, x59, x64, x73, x93, x107, x114, x132, x139⟩ _ _ _ => by kernel_rfl)) (sim_ret))))))))))
theorem S108_ok (call : Nat → List AV → M AV) (fuel : Nat) (args : List AV) (s : AS) : afn call fuel A108 args s = S108 call fuel args s := by
  rcases args with _ | ⟨x0, _ | ⟨x1, _ | ⟨x2, r⟩⟩⟩
  · kernel_rfl
  · kernel_rfl
  · exact (afn_sim (S108_sim call fuel) (v := (.mk x0 x1)) (e2 := S108e) (by kernel_rfl) (by kernel_rfl) (fun e w s => by cases w; cases e <;> kernel_rfl)).trans (by kernel_rfl)
  · kernel_rfl
def A109 : AFn := { nargs := 1, ntmps := 21, res := [.tmp 2], code := .seq (.ops [⟨0, (some 2), none, .p (.mv (.const (.bool false))), []⟩] 1 [0]) (.seq (.ops [⟨0, (some 3), none, .p (.mv (.tmp 0)), []⟩, ⟨1, (some 4), none, .p (.bin .geq (.tmp 3) (.const (.int .u8 97))), []⟩, ⟨2, (some 5), none, .p (.mv (.tmp 4)), []⟩, ⟨3, (some 6), (some (5, true)), .p (.mv (.tmp 0)), []⟩, ⟨4, (some 7), (some (5, true)), .p (.bin .leq (.tmp 6) (.const (.int .u8 122))), []⟩, ⟨5, (some 8), none, .p (.pick (.tmp 5) (.tmp 7) (.const (.bool false))), []⟩, ⟨6, (some 9), none, .p (.mv (.tmp 8)), []⟩, ⟨7, (some 10), (some (9, false)), .p (.mv (.tmp 0)), []⟩, ⟨8, (some 11), (some (9, false)), .p (.bin .geq (.tmp 10) (.const (.int .u8 48))), []⟩, ⟨9, (some 12), (some (9, false)), .p (.mv (.tmp 11)), []⟩, ⟨10, (some 13), (some (12, true)), .p (.mv (.tmp 0)), []⟩, ⟨11, (some 14), (some (12, true)), .p (.bin .leq (.tmp 13) (.const (.int .u8 57))), []⟩, ⟨12, (some 15), (some (9, false)), .p (.pick (.tmp 12) (.tmp 14) (.const (.bool false))), []⟩, ⟨13, (some 16), none, .p (.pick (.tmp 9) (.const (.bool true)) (.tmp 15)), []⟩, ⟨14, (some 17), none, .p (.mv (.tmp 16)), []⟩, ⟨15, (some 18), (some (17, false)), .p (.mv (.tmp 0)), []⟩, ⟨16, (some 19), (some (17, false)), .p (.bin .eql (.tmp 18) (.const (.int .u8 95))), []⟩, ⟨17, (some 20), none, .p (.pick (.tmp 17) (.const (.bool true)) (.tmp 19)), []⟩, ⟨18, (some 2), none, .p (.mv (.tmp 20)), []⟩] 19 [2]) (.ret)) }
def N109 : Notes := { note := fun _ => none, keep := fun | 1 => [2] | 0 => [0] | _ => [] }
theorem A109_ok : cFn Try.prog qf N109 Try.f109 = some A109 := by kernel_rfl
inductive W109 where
  | mk (x0 x2 : AV)
abbrev V109 := AV
def mo109 : W109 → Fr := fun ⟨x0, x2⟩ => [x0, .top, x2, .top, .top, .top, .top, .top, .top, .top, .top, .top, .top, .top, .top, .top, .top, .top, .top, .top, .top]
def mi109 : V109 → Fr := fun x0 => [x0, .tup [], .tup [], .tup [], .tup [], .tup [], .tup [], .tup [], .tup [], .tup [], .tup [], .tup [], .tup [], .tup [], .tup [], .tup [], .tup [], .tup [], .tup [], .tup [], .tup []]
noncomputable def S109r0 {R : Type} (call : Nat → List AV → M AV) : V109 → Nat → AS → (W109 → AS → Option R) → Option R := fun x0 base s k =>
  k (.mk x0 .top) s
noncomputable def S109r1 {R : Type} (call : Nat → List AV → M AV) : W109 → Nat → AS → (W109 → AS → Option R) → Option R := @W109.rec (fun _ => Nat → AS → (W109 → AS → Option R) → Option R) fun x0 x2 base s k =>
  bndP (binQ .geq x0 ((.int .u8 97) : AV)) fun y0 =>
  bndO (gd (wantG y0 true) (fun s => (pureO (some x0) s)) s) fun y1 s =>
  bndO (gd (wantG y0 true) (fun s => (pureO (binQ .leq y1 ((.int .u8 122) : AV)) s)) s) fun y2 s =>
  bndP (pickA y0 y2 ((.bool false) : AV)) fun y3 =>
  bndO (gd (wantG y3 false) (fun s => (pureO (some x0) s)) s) fun y4 s =>
  bndO (gd (wantG y3 false) (fun s => (pureO (binQ .geq y4 ((.int .u8 48) : AV)) s)) s) fun y5 s =>
  bndO (gd (wantG y3 false) (fun s => (pureO (some y5) s)) s) fun y6 s =>
  bndO (gd (wantG y6 true) (fun s => (pureO (some x0) s)) s) fun y7 s =>
  bndO (gd (wantG y6 true) (fun s => (pureO (binQ .leq y7 ((.int .u8 57) : AV)) s)) s) fun y8 s =>
  bndO (gd (wantG y3 false) (fun s => (pureO (pickA y6 y8 ((.bool false) : AV)) s)) s) fun y9 s =>
  bndP (pickA y3 ((.bool true) : AV) y9) fun y10 =>
  bndO (gd (wantG y10 false) (fun s => (pureO (some x0) s)) s) fun y11 s =>
  bndO (gd (wantG y10 false) (fun s => (pureO (binQ .eql y11 ((.int .u8 95) : AV)) s)) s) fun y12 s =>
  bndP (pickA y10 ((.bool true) : AV) y12) fun y13 =>
  k (.mk .top y13) s
noncomputable def S109c {R : Type} (call : Nat → List AV → M AV) (fuel : Nat) : SC V109 W109 R := sSeq (sReg 1 (S109r0 call)) (sSeq (sReg 19 (S109r1 call)) (sRet))
noncomputable def S109e : Ex → W109 → AS → Option (AV × AS) := fun e w s => (@W109.rec (fun _ => Option (AV × AS)) fun _ x2 => @Ex.rec (fun _ => Option (AV × AS)) (some (x2, s)) (fun _ => none) (some (x2, s)) e) w
noncomputable def S109 (call : Nat → List AV → M AV) (fuel : Nat) (args : List AV) (s : AS) : Option (AV × AS) := match args with
  | [x0] => S109c call fuel x0 s S109e
  | _ => none
theorem S109_sim (call : Nat → List AV → M AV) (fuel : Nat) : Sim (R := AV × AS) call fuel mi109 mo109 A109.code (S109c call fuel) := by
  refine sim_seq (sim_reg (fun x0 _ _ _ => by kernel_rfl)) (sim_seq (sim_reg (fun ⟨x0, x2⟩ _ _ _ => by kernel_rfl)) (sim_ret))
theorem S109_ok (call : Nat → List AV → M AV) (fuel : Nat) (args : List AV) (s : AS) : afn call fuel A109 args s = S109 call fuel args s := by
  rcases args with _ | ⟨x0, _ | ⟨x1, r⟩⟩
  · kernel_rfl
  · exact (afn_sim (S109_sim call fuel) (v := x0) (e2 := S109e) (by kernel_rfl) (by kernel_rfl) (fun e w s => by cases w; cases e <;> kernel_rfl)).trans (by kernel_rfl)
  · kernel_rfl
def A110 : AFn := { nargs := 1, ntmps := 25, res := [.tmp 2], code := .seq (.ops [⟨0, (some 2), none, .p (.mv (.const (.bool false))), []⟩] 1 [0]) (.seq (.seq (.ops [⟨0, (some 4), none, .p (.mv (.tmp 0)), []⟩, ⟨1, (some 5), none, .e (.call false 121 [.tmp 4]), []⟩, ⟨2, (some 6), none, .p (.notb (.tmp 5)), []⟩] 3 [0, 6]) (.cond (.tmp 6) (.seq (.ops [⟨0, (some 2), none, .p (.mv (.const (.bool false))), []⟩] 1 [2]) (.ret)) (.skip))) (.seq (.seq (.ops [⟨0, (some 7), none, .p (.mv (.tmp 0)), []⟩, ⟨1, (some 8), none, .e (.call true 87 [.tmp 7]), []⟩, ⟨2, (some 9), none, .p (.part false 1 1 (.tmp 8)), []⟩, ⟨3, (some 3), none, .p (.mv (.tmp 9)), []⟩] 4 [0, 3]) (.block 0 (.loop (.seq (.seq (.ops [⟨0, (some 10), none, .p (.mv (.tmp 0)), []⟩, ⟨1, (some 11), none, .e (.call false 60 [.tmp 10, .const (.str [38])]), []⟩] 2 [0, 3, 11]) (.cond (.tmp 11) (.skip) (.exit 0))) (.seq (.block 1 (.seq (.ops [⟨0, (some 15), none, .p (.mv (.tmp 0)), []⟩, ⟨1, (some 16), none, .e (.call false 121 [.tmp 15]), []⟩, ⟨2, (some 17), none, .p (.notb (.tmp 16)), []⟩, ⟨3, (some 18), none, .p (.mv (.tmp 17)), []⟩, ⟨4, (some 19), (some (18, false)), .p (.mv (.tmp 0)), []⟩, ⟨5, (some 20), (some (18, false)), .p (.build [.int .i64 0, .str [], .str []] [(0, 1, .const (.int .i64 5))]), []⟩, ⟨6, (some 21), (some (18, false)), .p (.mv (.tmp 3)), []⟩, ⟨7, (some 22), (some (18, false)), .e (.call false 111 [.tmp 19, .tmp 20, .tmp 21]), []⟩, ⟨8, (some 23), (some (18, false)), .p (.notb (.tmp 22)), []⟩, ⟨9, (some 24), none, .p (.pick (.tmp 18) (.const (.bool true)) (.tmp 23)), []⟩] 10 [0, 24]) (.cond (.tmp 24) (.seq (.ops [⟨0, (some 2), none, .p (.mv (.const (.bool false))), []⟩] 1 [2]) (.ret)) (.skip)))) (.ops [⟨0, (some 12), none, .p (.mv (.tmp 0)), []⟩, ⟨1, (some 13), none, .e (.call true 87 [.tmp 12]), []⟩, ⟨2, (some 14), none, .p (.part false 1 1 (.tmp 13)), []⟩, ⟨3, (some 3), none, .p (.mv (.tmp 14)), []⟩] 4 [0, 3])))))) (.seq (.ops [⟨0, (some 2), none, .p (.mv (.const (.bool true))), []⟩] 1 [2]) (.ret)))) }
def N110 : Notes := { note := fun _ => none, keep := fun | 8 => [2] | 5 => [0, 3] | 7 => [2] | 6 => [0, 24] | 4 => [0, 3, 11] | 3 => [0, 3] | 2 => [2] | 1 => [0, 6] | 0 => [0] | _ => [] }
theorem A110_ok : cFn Try.prog qf N110 Try.f110 = some A110 := by kernel_rfl
inductive W110 where
  | mk (x0 x2 x3 x6 x11 x24 : AV)
abbrev V110 := AV
def mo110 : W110 → Fr := fun ⟨x0, x2, x3, x6, x11, x24⟩ => [x0, .top, x2, x3, .top, .top, x6, .top, .top, .top, .top, x11, .top, .top, .top, .top, .top, .top, .top, .top, .top, .top, .top, .top, x24]
def mi110 : V110 → Fr := fun x0 => [x0, .tup [], .tup [], .tup [], .tup [], .tup [], .tup [], .tup [], .tup [], .tup [], .tup [], .tup [], .tup [], .tup [], .tup [], .tup [], .tup [], .tup [], .tup [], .tup [], .tup [], .tup [], .tup [], .tup [], .tup []]
noncomputable def S110r0 {R : Type} (call : Nat → List AV → M AV) : V110 → Nat → AS → (W110 → AS → Option R) → Option R := fun x0 base s k =>
  k (.mk x0 .top .top .top .top .top) s
noncomputable def S110r1 {R : Type} (call : Nat → List AV → M AV) : W110 → Nat → AS → (W110 → AS → Option R) → Option R := @W110.rec (fun _ => Nat → AS → (W110 → AS → Option R) → Option R) fun x0 x2 x3 x6 x11 x24 base s k =>
  bndO (call 121 [x0] s) fun y0 s =>
  bndP (notA y0) fun y1 =>
  k (.mk x0 .top .top y1 .top .top) s
noncomputable def S110r2 {R : Type} (call : Nat → List AV → M AV) : W110 → Nat → AS → (W110 → AS → Option R) → Option R := @W110.rec (fun _ => Nat → AS → (W110 → AS → Option R) → Option R) fun x0 x2 x3 x6 x11 x24 base s k =>
  k (.mk .top ((.bool false) : AV) .top .top .top .top) s
noncomputable def S110r3 {R : Type} (call : Nat → List AV → M AV) : W110 → Nat → AS → (W110 → AS → Option R) → Option R := @W110.rec (fun _ => Nat → AS → (W110 → AS → Option R) → Option R) fun x0 x2 x3 x6 x11 x24 base s k =>
  bndO (quietQ call 87 [x0] s) fun y0 s =>
  bndP (partQ false 1 1 y0) fun y1 =>
  k (.mk x0 .top y1 .top .top .top) s
noncomputable def S110r4 {R : Type} (call : Nat → List AV → M AV) : W110 → Nat → AS → (W110 → AS → Option R) → Option R := @W110.rec (fun _ => Nat → AS → (W110 → AS → Option R) → Option R) fun x0 x2 x3 x6 x11 x24 base s k =>
  bndO (call 60 [x0, ((.str [38]) : AV)] s) fun y0 s =>
  k (.mk x0 .top x3 .top y0 .top) s
noncomputable def S110r5 {R : Type} (call : Nat → List AV → M AV) : W110 → Nat → AS → (W110 → AS → Option R) → Option R := @W110.rec (fun _ => Nat → AS → (W110 → AS → Option R) → Option R) fun x0 x2 x3 x6 x11 x24 base s k =>
  bndO (call 121 [x0] s) fun y0 s =>
  bndP (notA y0) fun y1 =>
  bndO (gd (wantG y1 false) (fun s => (pureO (some x0) s)) s) fun y2 s =>
  bndO (gd (wantG y1 false) (fun s => (pureO (buildA [(.int .i64 0), (.str []), (.str [])] [(0, 1, ((.int .i64 5) : AV))]) s)) s) fun y3 s =>
  bndO (gd (wantG y1 false) (fun s => (pureO (some x3) s)) s) fun y4 s =>
  bndO (gd (wantG y1 false) (fun s => (call 111 [y2, y3, y4] s)) s) fun y5 s =>
  bndO (gd (wantG y1 false) (fun s => (pureO (notA y5) s)) s) fun y6 s =>
  bndP (pickA y1 ((.bool true) : AV) y6) fun y7 =>
  k (.mk x0 .top .top .top .top y7) s
noncomputable def S110r6 {R : Type} (call : Nat → List AV → M AV) : W110 → Nat → AS → (W110 → AS → Option R) → Option R := @W110.rec (fun _ => Nat → AS → (W110 → AS → Option R) → Option R) fun x0 x2 x3 x6 x11 x24 base s k =>
  k (.mk .top ((.bool false) : AV) .top .top .top .top) s
noncomputable def S110r7 {R : Type} (call : Nat → List AV → M AV) : W110 → Nat → AS → (W110 → AS → Option R) → Option R := @W110.rec (fun _ => Nat → AS → (W110 → AS → Option R) → Option R) fun x0 x2 x3 x6 x11 x24 base s k =>
  bndO (quietQ call 87 [x0] s) fun y0 s =>
  bndP (partQ false 1 1 y0) fun y1 =>
  k (.mk x0 .top y1 .top .top .top) s
noncomputable def S110b8 {R : Type} (call : Nat → List AV → M AV) (fuel : Nat) : SC W110 W110 R := sSeq (sSeq (sReg 2 (S110r4 call)) (sCond (@W110.rec (fun _ => AV) fun _ _ _ _ x11 _ => x11) (sSkip) (sExit 0))) (sSeq (sBlock 1 (sSeq (sReg 10 (S110r5 call)) (sCond (@W110.rec (fun _ => AV) fun _ _ _ _ _ x24 => x24) (sSeq (sReg 1 (S110r6 call)) (sRet)) (sSkip)))) (sReg 4 (S110r7 call)))
noncomputable def S110r9 {R : Type} (call : Nat → List AV → M AV) : W110 → Nat → AS → (W110 → AS → Option R) → Option R := @W110.rec (fun _ => Nat → AS → (W110 → AS → Option R) → Option R) fun x0 x2 x3 x6 x11 x24 base s k =>
  k (.mk .top ((.bool true) : AV) .top .top .top .top) s
noncomputable def S110c {R : Type} (call : Nat → List AV → M AV) (fuel : Nat) : SC V110 W110 R := sSeq (sReg 1 (S110r0 call)) (sSeq (sSeq (sReg 3 (S110r1 call)) (sCond (@W110.rec (fun _ => AV) fun _ _ _ x6 _ _ => x6) (sSeq (sReg 1 (S110r2 call)) (sRet)) (sSkip))) (sSeq (sSeq (sReg 4 (S110r3 call)) (sBlock 0 (sLoop fuel (S110b8 call fuel)))) (sSeq (sReg 1 (S110r9 call)) (sRet))))
noncomputable def S110e : Ex → W110 → AS → Option (AV × AS) := fun e w s => (@W110.rec (fun _ => Option (AV × AS)) fun _ x2 _ _ _ _ => @Ex.rec (fun _ => Option (AV × AS)) (some (x2, s)) (fun _ => none) (some (x2, s)) e) w
noncomputable def S110 (call : Nat → List AV → M AV) (fuel : Nat) (args : List AV) (s : AS) : Option (AV × AS) := match args with
  | [x0] => S110c call fuel x0 s S110e
  | _ => none
theorem S110_sim (call : Nat → List AV → M AV) (fuel : Nat) : Sim (R := AV × AS) call fuel mi110 mo110 A110.code (S110c call fuel) := by
  refine sim_seq (sim_reg (fun x0 _ _ _ => by kernel_rfl)) (sim_seq (sim_seq (sim_reg (fun ⟨x0, x2, x3, x6, x11, x24⟩ _ _ _ => by kernel_rfl)) (sim_cond (fun ⟨x0, x2, x3, x6, x11, x24⟩ => by kernel_rfl) (sim_seq (sim_reg (fun ⟨x0, x2, x3, x6, x11, x24⟩ _ _ _ => by kernel_rfl)) (sim_ret)) (sim_skip))) (sim_seq (sim_seq (sim_reg (fun ⟨x0, x2, x3, x6, x11, x24⟩ _ _ _ => by kernel_rfl)) (sim_block (sim_loop (sim_seq (sim_seq (sim_reg (fun ⟨x0, x2, x3, x6, x11, x24⟩ _ _ _ => by kernel_rfl)) (sim_cond (fun ⟨x0, x2, x3, x6, x11, x24⟩ => by kernel_rfl) (sim_skip) (sim_exit))) (sim_seq (sim_block (sim_seq (sim_reg (fun ⟨x0, x2, x3, x6, x11, x24⟩ _ _ _ => by kernel_rfl)) (sim_cond (fun ⟨x0, x2, x3, x6, x11, x24⟩ => by kernel_rfl) (sim_seq (sim_reg (fun ⟨x0, x2, x3, x6, x11, x24⟩ _ _ _ => by kernel_rfl)) (sim_ret)) (sim_skip)))) (sim_reg (fun ⟨x0, x2, x3, x6, x11, x24⟩ _ _ _ => by kernel_rfl))))))) (sim_seq (sim_reg (fun ⟨x0, x2, x3, x6, x11, x24⟩ _ _ _ => by kernel_rfl)) (sim_ret))))
theorem S110_ok (call : Nat → List AV → M AV) (fuel : Nat) (args : List AV) (s : AS) : afn call fuel A110 args s = S110 call fuel args s := by
  rcases args with _ | ⟨x0, _ | ⟨x1, r⟩⟩
  · kernel_rfl
  · exact (afn_sim (S110_sim call fuel) (v := x0) (e2 := S110e) (by kernel_rfl) (by kernel_rfl) (fun e w s => by cases w; cases e <;> kernel_rfl)).trans (by kernel_rfl)
  · kernel_rfl
def A111 : AFn := { nargs := 3, ntmps := 30, res := [.tmp 6], code := .seq (.ops [⟨0, (some 4), none, .l (.box (.tmp 1)), []⟩, ⟨1, (some 6), none, .p (.mv (.const (.bool false))), []⟩] 2 [0, 2, 4]) (.seq (.seq (.ops [⟨0, (some 7), none, .p (.mv (.tmp 0)), []⟩, ⟨1, (some 8), none, .p (.nilchk (.tmp 7)), []⟩, ⟨2, (some 9), none, .p (.fld 5 (.tmp 8)), []⟩, ⟨3, (some 10), none, .r (.load false 1 (.tmp 9)), []⟩, ⟨4, (some 11), none, .p (.lenS false (.tmp 10)), []⟩, ⟨5, (some 12), none, .p (.bin .geq (.tmp 11) (.const (.int .i64 200))), []⟩] 6 [0, 2, 4, 12]) (.cond (.tmp 12) (.seq (.ops [⟨0, (some 13), none, .p (.mv (.tmp 0)), []⟩, ⟨1, (some 14), none, .p (.mv (.tmp 0)), []⟩, ⟨2, (some 15), none, .p (.mv (.tmp 2)), []⟩, ⟨3, (some 16), none, .p (.nilchk (.tmp 13)), []⟩, ⟨4, (some 17), none, .p (.fld 3 (.tmp 16)), []⟩, ⟨5, none, none, .e (.store (.tmp 17) (.const (.int .i64 8)) 1), []⟩, ⟨6, (some 18), none, .p (.nilchk (.tmp 14)), []⟩, ⟨7, (some 19), none, .p (.fld 2 (.tmp 18)), []⟩, ⟨8, none, none, .e (.store (.tmp 19) (.tmp 15) 1), []⟩] 9 []) (.seq (.ops [⟨0, (some 6), none, .p (.mv (.const (.bool false))), []⟩] 1 [6]) (.ret))) (.skip))) (.seq (.ops [⟨0, (some 20), none, .p (.mv (.tmp 0)), []⟩, ⟨1, (some 21), none, .p (.mv (.tmp 0)), []⟩, ⟨2, (some 22), none, .p (.nilchk (.tmp 21)), []⟩, ⟨3, (some 23), none, .p (.fld 5 (.tmp 22)), []⟩, ⟨4, (some 24), none, .r (.load false 1 (.tmp 23)), []⟩, ⟨5, (some 25), none, .r (.load true 3 (.tmp 4)), []⟩, ⟨6, (some 26), none, .k { z := [.int .i64 0, .str [], .str []], len := 1, parts := [(0, .tmp 25)] }, []⟩, ⟨7, (some 27), none, .e (.append 3 40 (.tmp 24) (.tmp 26)), []⟩, ⟨8, (some 28), none, .p (.nilchk (.tmp 20)), []⟩, ⟨9, (some 29), none, .p (.fld 5 (.tmp 28)), []⟩, ⟨10, none, none, .e (.store (.tmp 29) (.tmp 27) 1), []⟩] 11 []) (.seq (.ops [⟨0, (some 6), none, .p (.mv (.const (.bool true))), []⟩] 1 [6]) (.ret)))) }
def N111 : Notes := { note := fun | 4 => some ⟨[0, 1, 2, 3, 4, 5, 6, 7, 8, 9, 10], [0, 0, 2, 6, 14, 0, 32, 126, 255, 511, 1023], [[], [], [], [], [], [], [], [], [], [], []]⟩ | _ => none, keep := fun | 5 => [6] | 4 => [] | 3 => [6] | 2 => [] | 1 => [0, 2, 4, 12] | 0 => [0, 2, 4] | _ => [] }
theorem A111_ok : cFn Try.prog qf N111 Try.f111 = some A111 := by kernel_rfl
inductive W111 where
  | mk (x0 x2 x4 x6 x12 : AV)
inductive V111 where
  | mk (x0 x1 x2 : AV)
def mo111 : W111 → Fr := fun ⟨x0, x2, x4, x6, x12⟩ => [x0, .top, x2, .top, x4, .top, x6, .top, .top, .top, .top, .top, x12, .top, .top, .top, .top, .top, .top, .top, .top, .top, .top, .top, .top, .top, .top, .top, .top, .top]
def mi111 : V111 → Fr := fun ⟨x0, x1, x2⟩ => [x0, x1, x2, .tup [], .tup [], .tup [], .tup [], .tup [], .tup [], .tup [], .tup [], .tup [], .tup [], .tup [], .tup [], .tup [], .tup [], .tup [], .tup [], .tup [], .tup [], .tup [], .tup [], .tup [], .tup [], .tup [], .tup [], .tup [], .tup [], .tup []]
noncomputable def S111r0 {R : Type} (call : Nat → List AV → M AV) : V111 → Nat → AS → (W111 → AS → Option R) → Option R := @V111.rec (fun _ => Nat → AS → (W111 → AS → Option R) → Option R) fun x0 x1 x2 base s k =>
  bndO (newQ (base + 0) (boxB x1 (base + 0)) s) fun y0 s =>
  k (.mk x0 x2 y0 .top .top) s
noncomputable def S111r1 {R : Type} (call : Nat → List AV → M AV) : W111 → Nat → AS → (W111 → AS → Option R) → Option R := @W111.rec (fun _ => Nat → AS → (W111 → AS → Option R) → Option R) fun x0 x2 x4 x6 x12 base s k =>
  bndP (nilchkA x0) fun y0 =>
  bndP (fldA 5 y0) fun y1 =>
  bndP (loadQ false 1 y1 s.h) fun y2 =>
  bndP (lenAQ false y2) fun y3 =>
  bndP (binQ .geq y3 ((.int .i64 200) : AV)) fun y4 =>
  k (.mk x0 x2 x4 .top y4) s
noncomputable def S111r2 {R : Type} (call : Nat → List AV → M AV) : W111 → Nat → AS → (W111 → AS → Option R) → Option R := @W111.rec (fun _ => Nat → AS → (W111 → AS → Option R) → Option R) fun x0 x2 x4 x6 x12 base s k =>
  bndP (nilchkA x0) fun y0 =>
  bndP (fldA 3 y0) fun y1 =>
  bndO (storeQ y1 ((.int .i64 8) : AV) 1 s) fun _ s =>
  bndP (nilchkA x0) fun y2 =>
  bndP (fldA 2 y2) fun y3 =>
  bndO (storeQ y3 x2 1 s) fun _ s =>
  k (.mk .top .top .top .top .top) s
noncomputable def S111r3 {R : Type} (call : Nat → List AV → M AV) : W111 → Nat → AS → (W111 → AS → Option R) → Option R := @W111.rec (fun _ => Nat → AS → (W111 → AS → Option R) → Option R) fun x0 x2 x4 x6 x12 base s k =>
  k (.mk .top .top .top ((.bool false) : AV) .top) s
noncomputable def S111r4 {R : Type} (call : Nat → List AV → M AV) : W111 → Nat → AS → (W111 → AS → Option R) → Option R := @W111.rec (fun _ => Nat → AS → (W111 → AS → Option R) → Option R) fun x0 x2 x4 x6 x12 base s k =>
  bndP (nilchkA x0) fun y0 =>
  bndP (fldA 5 y0) fun y1 =>
  bndP (loadQ false 1 y1 s.h) fun y2 =>
  bndP (loadQ true 3 x4 s.h) fun y3 =>
  bndP (rowsA [(.int .i64 0), (.str []), (.str [])] 1 [(0, y3)]) fun y4 =>
  bndO (appQ (base + 7) 3 40 y2 y4 s) fun y5 s =>
  bndP (nilchkA x0) fun y6 =>
  bndP (fldA 5 y6) fun y7 =>
  bndO (storeQ y7 y5 1 s) fun _ s =>
  k (.mk .top .top .top .top .top) s
noncomputable def S111r5 {R : Type} (call : Nat → List AV → M AV) : W111 → Nat → AS → (W111 → AS → Option R) → Option R := @W111.rec (fun _ => Nat → AS → (W111 → AS → Option R) → Option R) fun x0 x2 x4 x6 x12 base s k =>
  k (.mk .top .top .top ((.bool true) : AV) .top) s
noncomputable def S111c {R : Type} (call : Nat → List AV → M AV) (fuel : Nat) : SC V111 W111 R := sSeq (sReg 2 (S111r0 call)) (sSeq (sSeq (sReg 6 (S111r1 call)) (sCond (@W111.rec (fun _ => AV) fun _ _ _ _ x12 => x12) (sSeq (sReg 9 (S111r2 call)) (sSeq (sReg 1 (S111r3 call)) (sRet))) (sSkip))) (sSeq (sReg 11 (S111r4 call)) (sSeq (sReg 1 (S111r5 call)) (sRet))))
noncomputable def S111e : Ex → W111 → AS → Option (AV × AS) := fun e w s => (@W111.rec (fun _ => Option (AV × AS)) fun _ _ _ x6 _ => @Ex.rec (fun _ => Option (AV × AS)) (some (x6, s)) (fun _ => none) (some (x6, s)) e) w
noncomputable def S111 (call : Nat → List AV → M AV) (fuel : Nat) (args : List AV) (s : AS) : Option (AV × AS) := match args with
  | [x0, x1, x2] => S111c call fuel (.mk x0 x1 x2) s S111e
  | _ => none
theorem S111_sim (call : Nat → List AV → M AV) (fuel : Nat) : Sim (R := AV × AS) call fuel mi111 mo111 A111.code (S111c call fuel) := by
  refine sim_seq (sim_reg (fun ⟨x0, x1, x2⟩ _ _ _ => by kernel_rfl)) (sim_seq (sim_seq (sim_reg (fun ⟨x0, x2, x4, x6, x12⟩ _ _ _ => by kernel_rfl)) (sim_cond (fun ⟨x0, x2, x4, x6, x12⟩ => by kernel_rfl) (sim_seq (sim_reg (fun ⟨x0, x2, x4, x6, x12⟩ _ _ _ => by kernel_rfl)) (sim_seq (sim_reg (fun ⟨x0, x2, x4, x6, x12⟩ _ _ _ => by kernel_rfl)) (sim_ret))) (sim_skip))) (sim_seq (sim_reg (fun ⟨x0, x2, x4, x6, x12⟩ _ _ _ => by kernel_rfl)) (sim_seq (sim_reg (fun ⟨x0, x2, x4, x6, x12⟩ _ _ _ => by kernel_rfl)) (sim_ret))))
theorem S111_ok (call : Nat → List AV → M AV) (fuel : Nat) (args : List AV) (s : AS) : afn call fuel A111 args s = S111 call fuel args s := by
  rcases args with _ | ⟨x0, _ | ⟨x1, _ | ⟨x2, _ | ⟨x3, r⟩⟩⟩⟩
  · kernel_rfl
  · kernel_rfl
  · kernel_rfl
  · exact (afn_sim (S111_sim call fuel) (v := (.mk x0 x1 x2)) (e2 := S111e) (by kernel_rfl) (by kernel_rfl) (fun e w s => by cases w; cases e <;> kernel_rfl)).trans (by kernel_rfl)
  · kernel_rfl
def A115 : AFn := { nargs := 2, ntmps := 15, res := [.tmp 4], code := .seq (.ops [⟨0, (some 2), none, .l (.box (.tmp 0)), []⟩, ⟨1, (some 4), none, .p (.mv (.const (.str []))), []⟩] 2 [1, 2]) (.seq (.seq (.ops [⟨0, (some 5), none, .p (.fld 1 (.tmp 2)), []⟩, ⟨1, (some 6), none, .r (.load false 1 (.tmp 5)), []⟩, ⟨2, (some 7), none, .p (.mv (.tmp 1)), []⟩, ⟨3, (some 8), none, .p (.bin .lss (.tmp 6) (.tmp 7)), []⟩] 4 [2, 8]) (.cond (.tmp 8) (.seq (.ops [⟨0, (some 9), none, .p (.fld 0 (.tmp 2)), []⟩, ⟨1, (some 10), none, .r (.load false 1 (.tmp 9)), []⟩, ⟨2, (some 11), none, .p (.bin .add (.const (.str [40])) (.tmp 10)), []⟩, ⟨3, (some 12), none, .p (.bin .add (.tmp 11) (.const (.str [41]))), []⟩, ⟨4, (some 4), none, .p (.mv (.tmp 12)), []⟩] 5 [4]) (.ret)) (.skip))) (.seq (.ops [⟨0, (some 13), none, .p (.fld 0 (.tmp 2)), []⟩, ⟨1, (some 14), none, .r (.load false 1 (.tmp 13)), []⟩, ⟨2, (some 4), none, .p (.mv (.tmp 14)), []⟩] 3 [4]) (.ret))) }
def N115 : Notes := { note := fun _ => none, keep := fun | 3 => [4] | 2 => [4] | 1 => [2, 8] | 0 => [1, 2] | _ => [] }
theorem A115_ok : cFn Try.prog qf N115 Try.f115 = some A115 := by kernel_rfl
inductive W115 where
  | mk (x1 x2 x4 x8 : AV)
inductive V115 where
  | mk (x0 x1 : AV)
def mo115 : W115 → Fr := fun ⟨x1, x2, x4, x8⟩ => [.top, x1, x2, .top, x4, .top, .top, .top, x8, .top, .top, .top, .top, .top, .top]
def mi115 : V115 → Fr := fun ⟨x0, x1⟩ => [x0, x1, .tup [], .tup [], .tup [], .tup [], .tup [], .tup [], .tup [], .tup [], .tup [], .tup [], .tup [], .tup [], .tup []]
noncomputable def S115r0 {R : Type} (call : Nat → List AV → M AV) : V115 → Nat → AS → (W115 → AS → Option R) → Option R := @V115.rec (fun _ => Nat → AS → (W115 → AS → Option R) → Option R) fun x0 x1 base s k =>
  bndO (newQ (base + 0) (boxB x0 (base + 0)) s) fun y0 s =>
  k (.mk x1 y0 .top .top) s
noncomputable def S115r1 {R : Type} (call : Nat → List AV → M AV) : W115 → Nat → AS → (W115 → AS → Option R) → Option R := @W115.rec (fun _ => Nat → AS → (W115 → AS → Option R) → Option R) fun x1 x2 x4 x8 base s k =>
  bndP (fldA 1 x2) fun y0 =>
  bndP (loadQ false 1 y0 s.h) fun y1 =>
  bndP (binQ .lss y1 x1) fun y2 =>
  k (.mk .top x2 .top y2) s
noncomputable def S115r2 {R : Type} (call : Nat → List AV → M AV) : W115 → Nat → AS → (W115 → AS → Option R) → Option R := @W115.rec (fun _ => Nat → AS → (W115 → AS → Option R) → Option R) fun x1 x2 x4 x8 base s k =>
  bndP (fldA 0 x2) fun y0 =>
  bndP (loadQ false 1 y0 s.h) fun y1 =>
  bndP (binQ .add ((.str [40]) : AV) y1) fun y2 =>
  bndP (binQ .add y2 ((.str [41]) : AV)) fun y3 =>
  k (.mk .top .top y3 .top) s
noncomputable def S115r3 {R : Type} (call : Nat → List AV → M AV) : W115 → Nat → AS → (W115 → AS → Option R) → Option R := @W115.rec (fun _ => Nat → AS → (W115 → AS → Option R) → Option R) fun x1 x2 x4 x8 base s k =>
  bndP (fldA 0 x2) fun y0 =>
  bndP (loadQ false 1 y0 s.h) fun y1 =>
  k (.mk .top .top y1 .top) s
noncomputable def S115c {R : Type} (call : Nat → List AV → M AV) (fuel : Nat) : SC V115 W115 R := sSeq (sReg 2 (S115r0 call)) (sSeq (sSeq (sReg 4 (S115r1 call)) (sCond (@W115.rec (fun _ => AV) fun _ _ _ x8 => x8) (sSeq (sReg 5 (S115r2 call)) (sRet)) (sSkip))) (sSeq (sReg 3 (S115r3 call)) (sRet)))
noncomputable def S115e : Ex → W115 → AS → Option (AV × AS) := fun e w s => (@W115.rec (fun _ => Option (AV × AS)) fun _ _ x4 _ => @Ex.rec (fun _ => Option (AV × AS)) (some (x4, s)) (fun _ => none) (some (x4, s)) e) w
noncomputable def S115 (call : Nat → List AV → M AV) (fuel : Nat) (args : List AV) (s : AS) : Option (AV × AS) := match args with
  | [x0, x1] => S115c call fuel (.mk x0 x1) s S115e
  | _ => none
theorem S115_sim (call : Nat → List AV → M AV) (fuel : Nat) : Sim (R := AV × AS) call fuel mi115 mo115 A115.code (S115c call fuel) := by
  refine sim_seq (sim_reg (fun ⟨x0, x1⟩ _ _ _ => by kernel_rfl)) (sim_seq (sim_seq (sim_reg (fun ⟨x1, x2, x4, x8⟩ _ _ _ => by kernel_rfl)) (sim_cond (fun ⟨x1, x2, x4, x8⟩ => by kernel_rfl) (sim_seq (sim_reg (fun ⟨x1, x2, x4, x8⟩ _ _ _ => by kernel_rfl)) (sim_ret)) (sim_skip))) (sim_seq (sim_reg (fun ⟨x1, x2, x4, x8⟩ _ _ _ => by kernel_rfl)) (sim_ret)))
theorem S115_ok (call : Nat → List AV → M AV) (fuel : Nat) (args : List AV) (s : AS) : afn call fuel A115 args s = S115 call fuel args s := by
  rcases args with _ | ⟨x0, _ | ⟨x1, _ | ⟨x2, r⟩⟩⟩
  · kernel_rfl
  · kernel_rfl
  · exact (afn_sim (S115_sim call fuel) (v := (.mk x0 x1)) (e2 := S115e) (by kernel_rfl) (by kernel_rfl) (fun e w s => by cases w; cases e <;> kernel_rfl)).trans (by kernel_rfl)
  · kernel_rfl
def A119 : AFn := { nargs := 1, ntmps := 6, res := [.tmp 2], code := .seq (.ops [⟨0, (some 2), none, .p (.mv (.const (.int .i64 0))), []⟩] 1 [0]) (.seq (.ops [⟨0, (some 3), none, .p (.mv (.tmp 0)), []⟩, ⟨1, (some 4), none, .p (.bin .add (.tmp 3) (.const (.int .i64 16))), []⟩, ⟨2, (some 5), none, .p (.bin .quo (.tmp 4) (.const (.int .i64 8))), []⟩, ⟨3, (some 2), none, .p (.mv (.tmp 5)), []⟩] 4 [2]) (.ret)) }
def N119 : Notes := { note := fun _ => none, keep := fun | 1 => [2] | 0 => [0] | _ => [] }
theorem A119_ok : cFn Try.prog qf N119 Try.f119 = some A119 := by kernel_rfl
inductive W119 where
  | mk (x0 x2 : AV)
abbrev V119 := AV
def mo119 : W119 → Fr := fun ⟨x0, x2⟩ => [x0, .top, x2, .top, .top, .top]
def mi119 : V119 → Fr := fun x0 => [x0, .tup [], .tup [], .tup [], .tup [], .tup []]
noncomputable def S119r0 {R : Type} (call : Nat → List AV → M AV) : V119 → Nat → AS → (W119 → AS → Option R) → Option R := fun x0 base s k =>
  k (.mk x0 .top) s
noncomputable def S119r1 {R : Type} (call : Nat → List AV → M AV) : W119 → Nat → AS → (W119 → AS → Option R) → Option R := @W119.rec (fun _ => Nat → AS → (W119 → AS → Option R) → Option R) fun x0 x2 base s k =>
  bndP (binQ .add x0 ((.int .i64 16) : AV)) fun y0 =>
  bndP (binQ .quo y0 ((.int .i64 8) : AV)) fun y1 =>
  k (.mk .top y1) s
noncomputable def S119c {R : Type} (call : Nat → List AV → M AV) (fuel : Nat) : SC V119 W119 R := sSeq (sReg 1 (S119r0 call)) (sSeq (sReg 4 (S119r1 call)) (sRet))
noncomputable def S119e : Ex → W119 → AS → Option (AV × AS) := fun e w s => (@W119.rec (fun _ => Option (AV × AS)) fun _ x2 => @Ex.rec (fun _ => Option (AV × AS)) (some (x2, s)) (fun _ => none) (some (x2, s)) e) w
noncomputable def S119 (call : Nat → List AV → M AV) (fuel : Nat) (args : List AV) (s : AS) : Option (AV × AS) := match args with
  | [x0] => S119c call fuel x0 s S119e
  | _ => none
theorem S119_sim (call : Nat → List AV → M AV) (fuel : Nat) : Sim (R := AV × AS) call fuel mi119 mo119 A119.code (S119c call fuel) := by
  refine sim_seq (sim_reg (fun x0 _ _ _ => by kernel_rfl)) (sim_seq (sim_reg (fun ⟨x0, x2⟩ _ _ _ => by kernel_rfl)) (sim_ret))
theorem S119_ok (call : Nat → List AV → M AV) (fuel : Nat) (args : List AV) (s : AS) : afn call fuel A119 args s = S119 call fuel args s := by
  rcases args with _ | ⟨x0, _ | ⟨x1, r⟩⟩
  · kernel_rfl
  · exact (afn_sim (S119_sim call fuel) (v := x0) (e2 := S119e) (by kernel_rfl) (by kernel_rfl) (fun e w s => by cases w; cases e <;> kernel_rfl)).trans (by kernel_rfl)
  · kernel_rfl
def A120 : AFn := { nargs := 2, ntmps := 81, res := [.tmp 4], code := .seq (.ops [⟨0, (some 4), none, .p (.mv (.const (.int .i64 0))), []⟩] 1 [0, 1]) (.seq (.ops [⟨0, (some 12), none, .p (.mv (.tmp 1)), []⟩, ⟨1, (some 13), none, .e (.call true 128 [.tmp 12]), []⟩, ⟨2, (some 11), none, .p (.mv (.tmp 13)), []⟩, ⟨3, (some 14), none, .p (.extract (.tmp 11) 0), []⟩, ⟨4, (some 15), none, .p (.extract (.tmp 11) 1), []⟩, ⟨5, (some 5), none, .p (.mv (.tmp 14)), []⟩, ⟨6, (some 6), none, .p (.mv (.tmp 15)), []⟩] 7 [0, 1, 5, 6]) (.seq (.ops [⟨0, (some 16), none, .p (.mv (.tmp 1)), []⟩, ⟨1, (some 17), none, .p (.lenS true (.tmp 16)), []⟩, ⟨2, (some 7), none, .p (.mv (.tmp 17)), []⟩] 3 [0, 1, 5, 6, 7]) (.seq (.ops [⟨0, (some 8), none, .p (.mv (.const (.int .u32 0))), []⟩] 1 [0, 1, 5, 6, 7, 8]) (.seq (.seq (.ops [⟨0, (some 9), none, .p (.mv (.const (.int .i64 0))), []⟩] 1 [0, 1, 5, 6, 7, 8, 9]) (.block 0 (.loop (.seq (.seq (.ops [⟨0, (some 18), none, .p (.mv (.tmp 9)), []⟩, ⟨1, (some 19), none, .p (.mv (.tmp 7)), []⟩, ⟨2, (some 20), none, .p (.bin .lss (.tmp 18) (.tmp 19)), []⟩] 3 [0, 1, 5, 6, 7, 8, 9, 20]) (.cond (.tmp 20) (.skip) (.exit 0))) (.seq (.block 1 (.ops [⟨0, (some 23), none, .p (.mv (.tmp 8)), []⟩, ⟨1, (some 24), none, .p (.bin .mul (.tmp 23) (.const (.int .u32 16777619))), []⟩, ⟨2, (some 25), none, .p (.mv (.tmp 0)), []⟩, ⟨3, (some 26), none, .p (.mv (.tmp 9)), []⟩, ⟨4, (some 27), none, .p (.idxs (.tmp 25) (.tmp 26)), []⟩, ⟨5, (some 28), none, .p (.conv .u32 (.tmp 27)), []⟩, ⟨6, (some 29), none, .p (.bin .add (.tmp 24) (.tmp 28)), []⟩, ⟨7, (some 8), none, .p (.mv (.tmp 29)), []⟩] 8 [0, 1, 5, 6, 7, 8, 9])) (.ops [⟨0, (some 21), none, .p (.mv (.tmp 9)), []⟩, ⟨1, (some 22), none, .p (.bin .add (.tmp 21) (.const (.int .i64 1))), []⟩, ⟨2, (some 9), none, .p (.mv (.tmp 22)), []⟩] 3 [0, 1, 5, 6, 7, 8, 9])))))) (.seq (.seq (.ops [⟨0, (some 30), none, .p (.mv (.tmp 8)), []⟩, ⟨1, (some 31), none, .p (.mv (.tmp 5)), []⟩, ⟨2, (some 32), none, .p (.bin .eql (.tmp 30) (.tmp 31)), []⟩, ⟨3, (some 33), none, .p (.mv (.tmp 32)), []⟩, ⟨4, (some 34), (some (33, true)), .p (.mv (.tmp 0)), []⟩, ⟨5, (some 35), (some (33, true)), .p (.mv (.tmp 7)), []⟩, ⟨6, (some 36), (some (33, true)), .p (.cuts (.tmp 34) none (some (.tmp 35))), []⟩, ⟨7, (some 37), (some (33, true)), .p (.mv (.tmp 1)), []⟩, ⟨8, (some 38), (some (33, true)), .p (.bin .eql (.tmp 36) (.tmp 37)), []⟩, ⟨9, (some 39), none, .p (.pick (.tmp 33) (.tmp 38) (.const (.bool false))), []⟩] 10 [0, 1, 5, 6, 7, 8, 39]) (.cond (.tmp 39) (.seq (.ops [⟨0, (some 4), none, .p (.mv (.const (.int .i64 0))), []⟩] 1 [4]) (.ret)) (.skip))) (.seq (.seq (.ops [⟨0, (some 40), none, .p (.mv (.tmp 7)), []⟩, ⟨1, (some 10), none, .p (.mv (.tmp 40)), []⟩] 2 [0, 1, 5, 6, 7, 8, 10]) (.block 2 (.loop (.seq (.seq (.ops [⟨0, (some 41), none, .p (.mv (.tmp 10)), []⟩, ⟨1, (some 42), none, .p (.mv (.tmp 0)), []⟩, ⟨2, (some 43), none, .p (.lenS true (.tmp 42)), []⟩, ⟨3, (some 44), none, .p (.bin .lss (.tmp 41) (.tmp 43)), []⟩] 4 [0, 1, 5, 6, 7, 8, 10, 44]) (.cond (.tmp 44) (.skip) (.exit 2))) (.block 3 (.seq (.ops [⟨0, (some 45), none, .p (.mv (.tmp 8)), []⟩, ⟨1, (some 46), none, .p (.bin .mul (.tmp 45) (.const (.int .u32 16777619))), []⟩, ⟨2, (some 8), none, .p (.mv (.tmp 46)), []⟩] 3 [0, 1, 5, 6, 7, 8, 10]) (.seq (.ops [⟨0, (some 47), none, .p (.mv (.tmp 8)), []⟩, ⟨1, (some 48), none, .p (.mv (.tmp 0)), []⟩, ⟨2, (some 49), none, .p (.mv (.tmp 10)), []⟩, ⟨3, (some 50), none, .p (.idxs (.tmp 48) (.tmp 49)), []⟩, ⟨4, (some 51), none, .p (.conv .u32 (.tmp 50)), []⟩, ⟨5, (some 52), none, .p (.bin .add (.tmp 47) (.tmp 51)), []⟩, ⟨6, (some 8), none, .p (.mv (.tmp 52)), []⟩] 7 [0, 1, 5, 6, 7, 8, 10]) (.seq (.ops [⟨0, (some 53), none, .p (.mv (.tmp 8)), []⟩, ⟨1, (some 54), none, .p (.mv (.tmp 6)), []⟩, ⟨2, (some 55), none, .p (.mv (.tmp 0)), []⟩, ⟨3, (some 56), none, .p (.mv (.tmp 10)), []⟩, ⟨4, (some 57), none, .p (.mv (.tmp 7)), []⟩, ⟨5, (some 58), none, .p (.bin .sub (.tmp 56) (.tmp 57)), []⟩, ⟨6, (some 59), none, .p (.idxs (.tmp 55) (.tmp 58)), []⟩, ⟨7, (some 60), none, .p (.conv .u32 (.tmp 59)), []⟩, ⟨8, (some 61), none, .p (.bin .mul (.tmp 54) (.tmp 60)), []⟩, ⟨9, (some 62), none, .p (.bin .sub (.tmp 53) (.tmp 61)), []⟩, ⟨10, (some 8), none, .p (.mv (.tmp 62)), []⟩] 11 [0, 1, 5, 6, 7, 8, 10]) (.seq (.ops [⟨0, (some 63), none, .p (.mv (.tmp 10)), []⟩, ⟨1, (some 64), none, .p (.bin .add (.tmp 63) (.const (.int .i64 1))), []⟩, ⟨2, (some 10), none, .p (.mv (.tmp 64)), []⟩] 3 [0, 1, 5, 6, 7, 8, 10]) (.seq (.ops [⟨0, (some 65), none, .p (.mv (.tmp 8)), []⟩, ⟨1, (some 66), none, .p (.mv (.tmp 5)), []⟩, ⟨2, (some 67), none, .p (.bin .eql (.tmp 65) (.tmp 66)), []⟩, ⟨3, (some 68), none, .p (.mv (.tmp 67)), []⟩, ⟨4, (some 69), (some (68, true)), .p (.mv (.tmp 0)), []⟩, ⟨5, (some 70), (some (68, true)), .p (.mv (.tmp 10)), []⟩, ⟨6, (some 71), (some (68, true)), .p (.mv (.tmp 7)), []⟩, ⟨7, (some 72), (some (68, true)), .p (.bin .sub (.tmp 70) (.tmp 71)), []⟩, ⟨8, (some 73), (some (68, true)), .p (.mv (.tmp 10)), []⟩, ⟨9, (some 74), (some (68, true)), .p (.cuts (.tmp 69) (some (.tmp 72)) (some (.tmp 73))), []⟩, ⟨10, (some 75), (some (68, true)), .p (.mv (.tmp 1)), []⟩, ⟨11, (some 76), (some (68, true)), .p (.bin .eql (.tmp 74) (.tmp 75)), []⟩, ⟨12, (some 77), none, .p (.pick (.tmp 68) (.tmp 76) (.const (.bool false))), []⟩] 13 [0, 1, 5, 6, 7, 8, 10, 77]) (.cond (.tmp 77) (.seq (.ops [⟨0, (some 78), none, .p (.mv (.tmp 10)), []⟩, ⟨1, (some 79), none, .p (.mv (.tmp 7)), []⟩, ⟨2, (some 80), none, .p (.bin .sub (.tmp 78) (.tmp 79)), []⟩, ⟨3, (some 4), none, .p (.mv (.tmp 80)), []⟩] 4 [4]) (.ret)) (.skip)))))))))))) (.seq (.ops [⟨0, (some 4), none, .p (.mv (.const (.int .i64 (-1)))), []⟩] 1 [4]) (.ret)))))))) }
def N120 : Notes := { note := fun _ => none, keep := fun | 18 => [4] | 17 => [4] | 16 => [0, 1, 5, 6, 7, 8, 10, 77] | 15 => [0, 1, 5, 6, 7, 8, 10] | 14 => [0, 1, 5, 6, 7, 8, 10] | 13 => [0, 1, 5, 6, 7, 8, 10] | 12 => [0, 1, 5, 6, 7, 8, 10] | 11 => [0, 1, 5, 6, 7, 8, 10, 44] | 10 => [0, 1, 5, 6, 7, 8, 10] | 9 => [4] | 8 => [0, 1, 5, 6, 7, 8, 39] | 6 => [0, 1, 5, 6, 7, 8, 9] | 7 => [0, 1, 5, 6, 7, 8, 9] | 5 => [0, 1, 5, 6, 7, 8, 9, 20] | 4 => [0, 1, 5, 6, 7, 8, 9] | 3 => [0, 1, 5, 6, 7, 8] | 2 => [0, 1, 5, 6, 7] | 1 => [0, 1, 5, 6] | 0 => [0, 1] | _ => [] }
theorem A120_ok : cFn Try.prog qf N120 Try.f120 = some A120 := by kernel_rfl
inductive W120 where
  | mk (x0 x1 x4 x5 x6 x7 x8 x9 x10 x20 x39 x44 x77 : AV)
inductive V120 where
  | mk (x0 x1 : AV)
def mo120 : W120 → Fr := fun ⟨x0, x1, x4, x5, x6, x7, x8, x9, x10, x20, x39, x44, x77⟩ => [x0, x1, .top, .top, x4, x5, x6, x7, x8, x9, x10, .top, .top, .top, .top, .top, .top, .top, .top, .top, x20, .top, .top, .top, .top, .top, .top, .top, .top, .top, .top, .top, .top, .top, .top, .top, .top, .top, .top, x39, .top, .top, .top, .top, x44, .top, .top, .top, .top, .top, .top, .top, .top, .top, .top, .top, .top, .top, .top, .top, .top, .top, .top, .top, .top, .top, .top, .top, .top, .top, .top, .top, .top, .top, .top, .top, .top, x77, .top, .top, .top]
def mi120 : V120 → Fr := fun ⟨x0, x1⟩ => [x0, x1, .tup [], .tup [], .tup [], .tup [], .tup [], .tup [], .tup [], .tup [], .tup [], .tup [], .tup [], .tup [], .tup [], .tup [], .tup [], .tup [], .tup [], .tup [], .tup [], .tup [], .tup [], .tup [], .tup [], .tup [], .tup [], .tup [], .tup [], .tup [], .tup [], .tup [], .tup [], .tup [], .tup [], .tup [], .tup [], .tup [], .tup [], .tup [], .tup [], .tup [], .tup [], .tup [], .tup [], .tup [], .tup [], .tup [], .tup [], .tup [], .tup [], .tup [], .tup [], .tup [], .tup [], .tup [], .tup [], .tup [], .tup [], .tup [], .tup [], .tup [], .tup [], .tup [], .tup [], .tup [], .tup [], .tup [], .tup [], .tup [], .tup [], .tup [], .tup [], .tup [], .tup [], .tup [], .tup [], .tup [], .tup [], .tup [], .tup []]
noncomputable def S120r0 {R : Type} (call : Nat → List AV → M AV) : V120 → Nat → AS → (W120 → AS → Option R) → Option R := @V120.rec (fun _ => Nat → AS → (W120 → AS → Option R) → Option R) fun x0 x1 base s k =>
  k (.mk x0 x1 .top .top .top .top .top .top .top .top .top .top .top) s
noncomputable def S120r1 {R : Type} (call : Nat → List AV → M AV) : W120 → Nat → AS → (W120 → AS → Option R) → Option R := @W120.rec (fun _ => Nat → AS → (W120 → AS → Option R) → Option R) fun x0 x1 x4 x5 x6 x7 x8 x9 x10 x20 x39 x44 x77 base s k =>
  bndO (quietQ call 128 [x1] s) fun y0 s =>
  bndP (extrQ y0 0) fun y1 =>
  bndP (extrQ y0 1) fun y2 =>
  k (.mk x0 x1 .top y1 y2 .top .top .top .top .top .top .top .top) s
noncomputable def S120r2 {R : Type} (call : Nat → List AV → M AV) : W120 → Nat → AS → (W120 → AS → Option R) → Option R := @W120.rec (fun _ => Nat → AS → (W120 → AS → Option R) → Option R) fun x0 x1 x4 x5 x6 x7 x8 x9 x10 x20 x39 x44 x77 base s k =>
  bndP (lenAQ true x1) fun y0 =>
  k (.mk x0 x1 .top x5 x6 y0 .top .top .top .top .top .top .top) s
noncomputable def S120r3 {R : Type} (call : Nat → List AV → M AV) : W120 → Nat → AS → (W120 → AS → Option R) → Option R := @W120.rec (fun _ => Nat → AS → (W120 → AS → Option R) → Option R) fun x0 x1 x4 x5 x6 x7 x8 x9 x10 x20 x39 x44 x77 base s k =>
  k (.mk x0 x1 .top x5 x6 x7 ((.int .u32 0) : AV) .top .top .top .top .top .top) s
noncomputable def S120r4 {R : Type} (call : Nat → List AV → M AV) : W120 → Nat → AS → (W120 → AS → Option R) → Option R := @W120.rec (fun _ => Nat → AS → (W120 → AS → Option R) → Option R) fun x0 x1 x4 x5 x6 x7 x8 x9 x10 x20 x39 x44 x77 base s k =>
  k (.mk x0 x1 .top x5 x6 x7 x8 ((.int .i64 0) : AV) .top .top .top .top .top) s
noncomputable def S120r5 {R : Type} (call : Nat → List AV → M AV) : W120 → Nat → AS → (W120 → AS → Option R) → Option R := @W120.rec (fun _ => Nat → AS → (W120 → AS → Option R) → Option R) fun x0 x1 x4 x5 x6 x7 x8 x9 x10 x20 x39 x44 x77 base s k =>
  bndP (binQ .lss x9 x7) fun y0 =>
  k (.mk x0 x1 .top x5 x6 x7 x8 x9 .top y0 .top .top .top) s
noncomputable def S120r6 {R : Type} (call : Nat → List AV → M AV) : W120 → Nat → AS → (W120 → AS → Option R) → Option R := @W120.rec (fun _ => Nat → AS → (W120 → AS → Option R) → Option R) fun x0 x1 x4 x5 x6 x7 x8 x9 x10 x20 x39 x44 x77 base s k =>
  bndP (binQ .mul x8 ((.int .u32 16777619) : AV)) fun y0 =>
  bndP (idxsQ x0 x9) fun y1 =>
  bndP (convA .u32 y1) fun y2 =>
  bndP (binQ .add y0 y2) fun y3 =>
  k (.mk x0 x1 .top x5 x6 x7 y3 x9 .top .top .top .top .top) s
noncomputable def S120r7 {R : Type} (call : Nat → List AV → M AV) : W120 → Nat → AS → (W120 → AS → Option R) → Option R := @W120.rec (fun _ => Nat → AS → (W120 → AS → Option R) → Option R) fun x0 x1 x4 x5 x6 x7 x8 x9 x10 x20 x39 x44 x77 base s k =>
  bndP (binQ .add x9 ((.int .i64 1) : AV)) fun y0 =>
  k (.mk x0 x1 .top x5 x6 x7 x8 y0 .top .top .top .top .top) s
noncomputable def S120b8 {R : Type} (call : Nat → List AV → M AV) (fuel : Nat) : SC W120 W120 R := sSeq (sSeq (sReg 3 (S120r5 call)) (sCond (@W120.rec (fun _ => AV) fun _ _ _ _ _ _ _ _ _ x20 _ _ _ => x20) (sSkip) (sExit 0))) (sSeq (sBlock 1 (sReg 8 (S120r6 call))) (sReg 3 (S120r7 call)))
noncomputable def S120r9 {R : Type} (call : Nat → List AV → M AV) : W120 → Nat → AS → (W120 → AS → Option R) → Option R := @W120.rec (fun _ => Nat → AS → (W120 → AS → Option R) → Option R) fun x0 x1 x4 x5 x6 x7 x8 x9 x10 x20 x39 x44 x77 base s k =>
  bndP (binQ .eql x8 x5) fun y0 =>
  bndO (gd (wantG y0 true) (fun s => (pureO (some x0) s)) s) fun y1 s =>
  bndO (gd (wantG y0 true) (fun s => (pureO (some x7) s)) s) fun y2 s =>
  bndO (gd (wantG y0 true) (fun s => (pureO (cutsQ y1 none (some y2)) s)) s) fun y3 s =>
  bndO (gd (wantG y0 true) (fun s => (pureO (some x1) s)) s) fun y4 s =>
  bndO (gd (wantG y0 true) (fun s => (pureO (binQ .eql y3 y4) s)) s) fun y5 s =>
  bndP (pickA y0 y5 ((.bool false) : AV)) fun y6 =>
  k (.mk x0 x1 .top x5 x6 x7 x8 .top .top .top y6 .top .top) s
noncomputable def S120r10 {R : Type} (call : Nat → List AV → M AV) : W120 → Nat → AS → (W120 → AS → Option R) → Option R := @W120.rec (fun _ => Nat → AS → (W120 → AS → Option R) → Option R) fun x0 x1 x4 x5 x6 x7 x8 x9 x10 x20 x39 x44 x77 base s k =>
  k (.mk .top .top ((.int .i64 0) : AV) .top .top .top .top .top .top .top .top .top .top) s
noncomputable def S120r11 {R : Type} (call : Nat → List AV → M AV) : W120 → Nat → AS → (W120 → AS → Option R) → Option R := @W120.rec (fun _ => Nat → AS → (W120 → AS → Option R) → Option R) fun x0 x1 x4 x5 x6 x7 x8 x9 x10 x20 x39 x44 x77 base s k =>
  k (.mk x0 x1 .top x5 x6 x7 x8 .top x7 .top .top .top .top) s
noncomputable def S120r12 {R : Type} (call : Nat → List AV → M AV) : W120 → Nat → AS → (W120 → AS → Option R) → Option R := @W120.rec (fun _ => Nat → AS → (W120 → AS → Option R) → Option R) fun x0 x1 x4 x5 x6 x7 x8 x9 x10 x20 x39 x44 x77 base s k =>
  bndP (lenAQ true x0) fun y0 =>
  bndP (binQ .lss x10 y0) fun y1 =>
  k (.mk x0 x1 .top x5 x6 x7 x8 .top x10 .top .top y1 .top) s
noncomputable def S120r13 {R : Type} (call : Nat → List AV → M AV) : W120 → Nat → AS → (W120 → AS → Option R) → Option R := @W120.rec (fun _ => Nat → AS → (W120 → AS → Option R) → Option R) fun x0 x1 x4 x5 x6 x7 x8 x9 x10 x20 x39 x44 x77 base s k =>
  bndP (binQ .mul x8 ((.int .u32 16777619) : AV)) fun y0 =>
  k (.mk x0 x1 .top x5 x6 x7 y0 .top x10 .top .top .top .top) s
noncomputable def S120r14 {R : Type} (call : Nat → List AV → M AV) : W120 → Nat → AS → (W120 → AS → Option R) → Option R := @W120.rec (fun _ => Nat → AS → (W120 → AS → Option R) → Option R) fun x0 x1 x4 x5 x6 x7 x8 x9 x10 x20 x39 x44 x77 base s k =>
  bndP (idxsQ x0 x10) fun y0 =>
  bndP (convA .u32 y0) fun y1 =>
  bndP (binQ .add x8 y1) fun y2 =>
  k (.mk x0 x1 .top x5 x6 x7 y2 .top x10 .top .top .top .top) s
noncomputable def S120r15 {R : Type} (call : Nat → List AV → M AV) : W120 → Nat → AS → (W120 → AS → Option R) → Option R := @W120.rec (fun _ => Nat → AS → (W120 → AS → Option R) → Option R) fun x0 x1 x4 x5 x6 x7 x8 x9 x10 x20 x39 x44 x77 base s k =>
  bndP (binQ .sub x10 x7) fun y0 =>
  bndP (idxsQ x0 y0) fun y1 =>
  bndP (convA .u32 y1) fun y2 =>
  bndP (binQ .mul x6 y2) fun y3 =>
  bndP (binQ .sub x8 y3) fun y4 =>
  k (.mk x0 x1 .top x5 x6 x7 y4 .top x10 .top .top .top .top) s
noncomputable def S120r16 {R : Type} (call : Nat → List AV → M AV) : W120 → Nat → AS → (W120 → AS → Option R) → Option R := @W120.rec (fun _ => Nat → AS → (W120 → AS → Option R) → Option R) fun x0 x1 x4 x5 x6 x7 x8 x9 x10 x20 x39 x44 x77 base s k =>
  bndP (binQ .add x10 ((.int .i64 1) : AV)) fun y0 =>
  k (.mk x0 x1 .top x5 x6 x7 x8 .top y0 .top .top .top .top) s
noncomputable def S120r17 {R : Type} (call : Nat → List AV → M AV) : W120 → Nat → AS → (W120 → AS → Option R) → Option R := @W120.rec (fun _ => Nat → AS → (W120 → AS → Option R) → Option R) fun x0 x1 x4 x5 x6 x7 x8 x9 x10 x20 x39 x44 x77 base s k =>
  bndP (binQ .eql x8 x5) fun y0 =>
  bndO (gd (wantG y0 true) (fun s => (pureO (some x0) s)) s) fun y1 s =>
  bndO (gd (wantG y0 true) (fun s => (pureO (some x10) s)) s) fun y2 s =>
  bndO (gd (wantG y0 true) (fun s => (pureO (some x7) s)) s) fun y3 s =>
  bndO (gd (wantG y0 true) (fun s => (pureO (binQ .sub y2 y3) s)) s) fun y4 s =>
  bndO (gd (wantG y0 true) (fun s => (pureO (some x10) s)) s) fun y5 s =>
  bndO (gd (wantG y0 true) (fun s => (pureO (cutsQ y1 (some y4) (some y5)) s)) s) fun y6 s =>
  bndO (gd (wantG y0 true) (fun s => (pureO (some x1) s)) s) fun y7 s =>
  bndO (gd (wantG y0 true) (fun s => (pureO (binQ .eql y6 y7) s)) s) fun y8 s =>
  bndP (pickA y0 y8 ((.bool false) : AV)) fun y9 =>
  k (.mk x0 x1 .top x5 x6 x7 x8 .top x10 .top .top .top y9) s
noncomputable def S120r18 {R : Type} (call : Nat → List AV → M AV) : W120 → Nat → AS → (W120 → AS → Option R) → Option R := @W120.rec (fun _ => Nat → AS → (W120 → AS → Option R) → Option R) fun x0 x1 x4 x5 x6 x7 x8 x9 x10 x20 x39 x44 x77 base s k =>
  bndP (binQ .sub x10 x7) fun y0 =>
  k (.mk .top .top y0 .top .top .top .top .top .top .top .top .top .top) s
noncomputable def S120b19 {R : Type} (call : Nat → List AV → M AV) (fuel : Nat) : SC W120 W120 R := sSeq (sSeq (sReg 4 (S120r12 call)) (sCond (@W120.rec (fun _ => AV) fun _ _ _ _ _ _ _ _ _ _ _ x44 _ => x44) (sSkip) (sExit 2))) (sBlock 3 (sSeq (sReg 3 (S120r13 call)) (sSeq (sReg 7 (S120r14 call)) (sSeq (sReg 11 (S120r15 call)) (sSeq (sReg 3 (S120r16 call)) (sSeq (sReg 13 (S120r17 call)) (sCond (@W120.rec (fun _ => AV) fun _ _ _ _ _ _ _ _ _ _ _ _ x77 => x77) (sSeq (sReg 4 (S120r18 call)) (sRet)) (sSkip))))))))
noncomputable def S120r20 {R : Type} (call : Nat → List AV → M AV) : W120 → Nat → AS → (W120 → AS → Option R) → Option R := @W120.rec (fun _ => Nat → AS → (W120 → AS → Option R) → Option R) fun x0 x1 x4 x5 x6 x7 x8 x9 x10 x20 x39 x44 x77 base s k =>
  k (.mk .top .top ((.int .i64 (-1)) : AV) .top .top .top .top .top .top .top .top .top .top) s
noncomputable def S120c {R : Type} (call : Nat → List AV → M AV) (fuel : Nat) : SC V120 W120 R := sSeq (sReg 1 (S120r0 call)) (sSeq (sReg 7 (S120r1 call)) (sSeq (sReg 3 (S120r2 call)) (sSeq (sReg 1 (S120r3 call)) (sSeq (sSeq (sReg 1 (S120r4 call)) (sBlock 0 (sLoop fuel (S120b8 call fuel)))) (sSeq (sSeq (sReg 10 (S120r9 call)) (sCond (@W120.rec (fun _ => AV) fun _ _ _ _ _ _ _ _ _ _ x39 _ _ => x39) (sSeq (sReg 1 (S120r10 call)) (sRet)) (sSkip))) (sSeq (sSeq (sReg 2 (S120r11 call)) (sBlock 2 (sLoop fuel (S120b19 call fuel)))) (sSeq (sReg 1 (S120r20 call)) (sRet))))))))
noncomputable def S120e : Ex → W120 → AS → Option (AV × AS) := fun e w s => (@W120.rec (fun _ => Option (AV × AS)) fun _ _ x4 _ _ _ _ _ _ _ _ _ _ => @Ex.rec (fun _ => Option (AV × AS)) (some (x4, s)) (fun _ => none) (some (x4, s)) e) w
noncomputable def S120 (call : Nat → List AV → M AV) (fuel : Nat) (args : List AV) (s : AS) : Option (AV × AS) := match args with
  | [x0, x1] => S120c call fuel (.mk x0 x1) s S120e
  | _ => none
theorem S120_sim (call : Nat → List AV → M AV) (fuel : Nat) : Sim (R := AV × AS) call fuel mi120 mo120 A120.code (S120c call fuel) := by
  refine sim_seq (sim_reg (fun ⟨x0, x1⟩ _ _ _ => by kernel_rfl)) (sim_seq (sim_reg (fun ⟨x0, x1, x4, x5, x6, x7, x8, x9, x10, x20, x39, x44, x77⟩ _ _ _ => by kernel_rfl)) (sim_seq (sim_reg (fun ⟨x0, x1, x4, x5, x6, x7, x8, x9, x10, x20, x39, x44, x77⟩ _ _ _ => by kernel_rfl)) (sim_seq (sim_reg (fun ⟨x0, x1, x4, x5, x6, x7, x8, x9, x10, x20, x39, x44, x77⟩ _ _ _ => by kernel_rfl)) (sim_seq (sim_seq (sim_reg (fun ⟨x0, x1, x4, x5, x6, x7, x8, x9, x10, x20, x39, x44, x77⟩ _ _ _ => by kernel_rfl)) (sim_block (sim_loop (sim_seq (sim_seq (sim_reg (fun ⟨x0, x1, x4, x5, x6, x7, x8, x9, x10, x20, x39, x44, x77⟩ _ _ _ => by kernel_rfl)) (sim_cond (fun ⟨x0, x1, x4, x5, x6, x7, x8, x9, x10, x20, x39, x44, x77⟩ => by kernel_rfl) (sim_skip) (sim_exit))) (sim_seq (sim_block (sim_reg (fun ⟨x0, x1, x4, x5, x6, x7, x8, x9, x10, x20, x39, x44, x77⟩ _ _ _ => by kernel_rfl))) (sim_reg (fun ⟨x0, x1, x4, x5, x6, x7, x8, x9, x10, x20, x39, x44, x77⟩ _ _ _ => by kernel_rfl))))))) (sim_seq (sim_seq (sim_reg (fun ⟨x0, x1, x4, x5, x6, x7, x8, x9, x10, x20, x39, x44, x77⟩ _ _ _ => by kernel_rfl)) (sim_cond (fun ⟨x0, x1, x4, x5, x6, x7, x8, x9, x10, x20, x39, x44, x77⟩ => by kernel_rfl) (sim_seq (sim_reg (fun ⟨x0, x1, x4, x5, x6, x7, x8, x9, x10, x20, x39, x44, x77⟩ _ _ _ => by kernel_rfl)) (sim_ret)) (sim_skip))) (sim_seq (sim_seq (sim_reg (fun ⟨x0, x1, x4, x5, x6, x7, x8, x9, x10, x20, x39, x44, x77⟩ _ _ _ => by kernel_rfl)) (sim_block (sim_loop (sim_seq (sim_seq (sim_reg (fun ⟨x0, x1, x4, x5, x6, x7, x8, x9, x10, x20, x39, x44, x77⟩ _ _ _ => by kernel_rfl)) (sim_cond (fun ⟨x0, x1, x4, x5, x6, x7, x8, x9, x10, x20, x39, x44, x77⟩ => by kernel_rfl) (sim_skip) (sim_exit))) (sim_block (sim_seq (sim_reg (fun ⟨x0, x1, x4, x5, x6, x7, x8, x9, x10, x20, x39, x44, x77⟩ _ _ _ => by kernel_rfl)) (sim_seq (sim_reg (fun ⟨x0, x1, x4, x5, x6, x7, x8, x9, x10, x20, x39, x44, x77⟩ _ _ _ => by kernel_rfl)) (sim_seq (sim_reg (fun ⟨x0, x1, x4, x5, x6, x7, x8, x9, x10, x20, x39, x44, x77⟩ _ _ _ => by kernel_rfl)) (sim_seq (sim_reg (fun ⟨x0, x1, x4, x5, x6, x7, x8, x9, x10, x20, x39, x44, x77⟩ _ _ _ => by kernel_rfl)) (sim_seq (sim_reg (fun ⟨x0, x1, x4, x5, x6, x7, x8, x9, x10, x20, x39, x44, x77⟩ _ _ _ => by kernel_rfl)) (sim_cond (fun ⟨x0, x1, x4, x5, x6, x7, x8, x9, x10, x20, x39, x44, x77⟩ => by kernel_rfl) (sim_seq (sim_reg (fun ⟨x0, x1, x4, x5, x6, x7, x8, x9, x10, x20, x39, x44, x77⟩ _ _ _ => by kernel_rfl)) (sim_ret)) (sim_skip)))))))))))) (sim_seq (sim_reg (fun ⟨x0, x1, x4, x5, x6, x7, x8, x9, x10, x20, x39, x44, x77⟩ _ _ _ => by kernel_rfl)) (sim_ret))))))))
theorem S120_ok (call : Nat → List AV → M AV) (fuel : Nat) (args : List AV) (s : AS) : afn call fuel A120 args s = S120 call fuel args s := by
  rcases args with _ | ⟨x0, _ | ⟨x1, _ | ⟨x2, r⟩⟩⟩
  · kernel_rfl
  · kernel_rfl
  · exact (afn_sim (S120_sim call fuel) (v := (.mk x0 x1)) (e2 := S120e) (by kernel_rfl) (by kernel_rfl) (fun e w s => by cases w; cases e <;> kernel_rfl)).trans (by kernel_rfl)
  · kernel_rfl
def A121 : AFn := { nargs := 1, ntmps := 60, res := [.tmp 2], code := .seq (.ops [⟨0, (some 2), none, .p (.mv (.const (.bool false))), []⟩] 1 [0]) (.seq (.seq (.ops [⟨0, (some 6), none, .p (.mv (.tmp 0)), []⟩, ⟨1, (some 7), none, .e (.call true 89 [.tmp 6, .const (.str [40])]), []⟩, ⟨2, (some 8), none, .p (.notb (.tmp 7)), []⟩] 3 [0, 8]) (.cond (.tmp 8) (.seq (.ops [⟨0, (some 9), none, .p (.build [.int .i64 0, .str [], .str []] [(0, 1, .const (.int .i64 1))]), []⟩, ⟨1, (some 10), none, .p (.mv (.tmp 0)), []⟩, ⟨2, (some 11), none, .e (.call true 87 [.tmp 10]), []⟩, ⟨3, (some 12), none, .p (.part false 1 1 (.tmp 11)), []⟩, ⟨4, (some 3), none, .l (.alloc [.int .i64 0, .str [], .str []]), []⟩, ⟨5, none, none, .e (.store (.tmp 3) (.tmp 9) 3), []⟩, ⟨6, (some 4), none, .p (.mv (.tmp 12)), []⟩] 7 [0, 3, 4]) (.seq (.seq (.ops [⟨0, (some 13), none, .p (.mv (.tmp 0)), []⟩, ⟨1, (some 14), none, .p (.fld 1 (.tmp 3)), []⟩, ⟨2, (some 15), none, .e (.call false 59 [.tmp 13, .tmp 14]), []⟩, ⟨3, (some 16), none, .p (.notb (.tmp 15)), []⟩] 4 [0, 3, 4, 16]) (.cond (.tmp 16) (.seq (.ops [⟨0, (some 2), none, .p (.mv (.const (.bool false))), []⟩] 1 [2]) (.ret)) (.skip))) (.seq (.seq (.ops [⟨0, (some 17), none, .p (.mv (.tmp 0)), []⟩, ⟨1, (some 18), none, .e (.call false 60 [.tmp 17, .const (.str [45, 62])]), []⟩] 2 [0, 3, 4, 18]) (.cond (.tmp 18) (.seq (.ops [⟨0, (some 19), none, .p (.fld 0 (.tmp 3)), []⟩, ⟨1, none, none, .e (.store (.tmp 19) (.const (.int .i64 2)) 1), []⟩] 2 [0, 3, 4]) (.seq (.ops [⟨0, (some 20), none, .p (.mv (.tmp 0)), []⟩, ⟨1, (some 21), none, .p (.fld 2 (.tmp 3)), []⟩, ⟨2, (some 22), none, .e (.call false 59 [.tmp 20, .tmp 21]), []⟩, ⟨3, (some 23), none, .p (.notb (.tmp 22)), []⟩] 4 [0, 3, 4, 23]) (.cond (.tmp 23) (.seq (.ops [⟨0, (some 2), none, .p (.mv (.const (.bool false))), []⟩] 1 [2]) (.ret)) (.skip)))) (.skip))) (.seq (.ops [⟨0, (some 24), none, .p (.mv (.tmp 0)), []⟩, ⟨1, (some 25), none, .r (.load true 3 (.tmp 3)), []⟩, ⟨2, (some 26), none, .p (.mv (.tmp 4)), []⟩, ⟨3, (some 27), none, .e (.call false 111 [.tmp 24, .tmp 25, .tmp 26]), []⟩, ⟨4, (some 2), none, .p (.mv (.tmp 27)), []⟩] 5 [2]) (.ret))))) (.skip))) (.seq (.seq (.ops [⟨0, (some 28), none, .p (.mv (.tmp 0)), []⟩, ⟨1, (some 29), none, .p (.nilchk (.tmp 28)), []⟩, ⟨2, (some 30), none, .p (.fld 4 (.tmp 29)), []⟩, ⟨3, (some 31), none, .r (.load false 1 (.tmp 30)), []⟩, ⟨4, (some 32), none, .p (.bin .eql (.tmp 31) (.const (.int .i64 20))), []⟩] 5 [0, 32]) (.cond (.tmp 32) (.seq (.ops [⟨0, (some 33), none, .p (.mv (.tmp 0)), []⟩, ⟨1, (some 34), none, .e (.call false 58 [.tmp 33, .const (.int .i64 10)]), []⟩, ⟨2, (some 2), none, .p (.mv (.tmp 34)), []⟩] 3 [2]) (.ret)) (.skip))) (.seq (.ops [⟨0, (some 35), none, .p (.mv (.tmp 0)), []⟩, ⟨1, (some 36), none, .p (.nilchk (.tmp 35)), []⟩, ⟨2, (some 37), none, .p (.fld 4 (.tmp 36)), []⟩, ⟨3, (some 38), none, .r (.load false 1 (.tmp 37)), []⟩, ⟨4, (some 39), none, .p (.bin .add (.tmp 38) (.const (.int .i64 1))), []⟩, ⟨5, (some 40), none, .p (.nilchk (.tmp 35)), []⟩, ⟨6, (some 41), none, .p (.fld 4 (.tmp 40)), []⟩, ⟨7, none, none, .e (.store (.tmp 41) (.tmp 39) 1), []⟩] 8 [0]) (.seq (.ops [⟨0, (some 42), none, .p (.mv (.tmp 0)), []⟩, ⟨1, (some 43), none, .e (.call false 90 [.tmp 42, .const (.str [40])]), []⟩, ⟨2, (some 44), none, .p (.mv (.tmp 43)), []⟩, ⟨3, (some 45), (some (44, true)), .p (.mv (.tmp 0)), []⟩, ⟨4, (some 46), (some (44, true)), .e (.call false 91 [.tmp 45]), []⟩, ⟨5, (some 47), none, .p (.pick (.tmp 44) (.tmp 46) (.const (.bool false))), []⟩, ⟨6, (some 48), none, .p (.mv (.tmp 47)), []⟩, ⟨7, (some 49), (some (48, true)), .p (.mv (.tmp 0)), []⟩, ⟨8, (some 50), (some (48, true)), .e (.call false 90 [.tmp 49, .const (.str [41])]), []⟩, ⟨9, (some 51), none, .p (.pick (.tmp 48) (.tmp 50) (.const (.bool false))), []⟩, ⟨10, (some 5), none, .p (.mv (.tmp 51)), []⟩] 11 [0, 5]) (.seq (.ops [⟨0, (some 52), none, .p (.mv (.tmp 0)), []⟩, ⟨1, (some 53), none, .p (.nilchk (.tmp 52)), []⟩, ⟨2, (some 54), none, .p (.fld 4 (.tmp 53)), []⟩, ⟨3, (some 55), none, .r (.load false 1 (.tmp 54)), []⟩, ⟨4, (some 56), none, .p (.bin .sub (.tmp 55) (.const (.int .i64 1))), []⟩, ⟨5, (some 57), none, .p (.nilchk (.tmp 52)), []⟩, ⟨6, (some 58), none, .p (.fld 4 (.tmp 57)), []⟩, ⟨7, none, none, .e (.store (.tmp 58) (.tmp 56) 1), []⟩] 8 [5]) (.seq (.ops [⟨0, (some 59), none, .p (.mv (.tmp 5)), []⟩, ⟨1, (some 2), none, .p (.mv (.tmp 59)), []⟩] 2 [2]) (.ret))))))) }
def N121 : Notes := { note := fun _ => none, keep := fun | 15 => [2] | 14 => [5] | 13 => [0, 5] | 12 => [0] | 11 => [2] | 10 => [0, 32] | 9 => [2] | 8 => [2] | 7 => [0, 3, 4, 23] | 6 => [0, 3, 4] | 5 => [0, 3, 4, 18] | 4 => [2] | 3 => [0, 3, 4, 16] | 2 => [0, 3, 4] | 1 => [0, 8] | 0 => [0] | _ => [] }
theorem A121_ok : cFn Try.prog qf N121 Try.f121 = some A121 := by kernel_rfl
inductive W121 where
  | mk (x0 x2 x3 x4 x5 x8 x16 x18 x23 x32 : AV)
abbrev V121 := AV
def mo121 : W121 → Fr := fun ⟨x0, x2, x3, x4, x5, x8, x16, x18, x23, x32⟩ => [x0, .top, x2, x3, x4, x5, .top, .top, x8, .top, .top, .top, .top, .top, .top, .top, x16, .top, x18, .top, .top, .top, .top, x23, .top, .top, .top, .top, .top, .top, .top, .top, x32, .top, .top, .top, .top, .top, .top, .top, .top, .top, .top, .top, .top, .top, .top, .top, .top, .top, .top, .top, .top, .top, .top, .top, .top, .top, .top, .top]
def mi121 : V121 → Fr := fun x0 => [x0, .tup [], .tup [], .tup [], .tup [], .tup [], .tup [], .tup [], .tup [], .tup [], .tup [], .tup [], .tup [], .tup [], .tup [], .tup [], .tup [], .tup [], .tup [], .tup [], .tup [], .tup [], .tup [], .tup [], .tup [], .tup [], .tup [], .tup [], .tup [], .tup [], .tup [], .tup [], .tup [], .tup [], .tup [], .tup [], .tup [], .tup [], .tup [], .tup [], .tup [], .tup [], .tup [], .tup [], .tup [], .tup [], .tup [], .tup [], .tup [], .tup [], .tup [], .tup [], .tup [], .tup [], .tup [], .tup [], .tup [], .tup [], .tup [], .tup []]
noncomputable def S121r0 {R : Type} (call : Nat → List AV → M AV) : V121 → Nat → AS → (W121 → AS → Option R) → Option R := fun x0 base s k =>
  k (.mk x0 .top .top .top .top .top .top .top .top .top) s
noncomputable def S121r1 {R : Type} (call : Nat → List AV → M AV) : W121 → Nat → AS → (W121 → AS → Option R) → Option R := @W121.rec (fun _ => Nat → AS → (W121 → AS → Option R) → Option R) fun x0 x2 x3 x4 x5 x8 x16 x18 x23 x32 base s k =>
  bndO (quietQ call 89 [x0, ((.str [40]) : AV)] s) fun y0 s =>
  bndP (notA y0) fun y1 =>
  k (.mk x0 .top .top .top .top y1 .top .top .top .top) s
noncomputable def S121r2 {R : Type} (call : Nat → List AV → M AV) : W121 → Nat → AS → (W121 → AS → Option R) → Option R := @W121.rec (fun _ => Nat → AS → (W121 → AS → Option R) → Option R) fun x0 x2 x3 x4 x5 x8 x16 x18 x23 x32 base s k =>
  bndP (buildA [(.int .i64 0), (.str []), (.str [])] [(0, 1, ((.int .i64 1) : AV))]) fun y0 =>
  bndO (quietQ call 87 [x0] s) fun y1 s =>
  bndP (partQ false 1 1 y1) fun y2 =>
  bndO (newQ (base + 4) (allocB [(.int .i64 0), (.str []), (.str [])] (base + 4)) s) fun y3 s =>
  bndO (storeQ y3 y0 3 s) fun _ s =>
  k (.mk x0 .top y3 y2 .top .top .top .top .top .top) s
noncomputable def S121r3 {R : Type} (call : Nat → List AV → M AV) : W121 → Nat → AS → (W121 → AS → Option R) → Option R := @W121.rec (fun _ => Nat → AS → (W121 → AS → Option R) → Option R) fun x0 x2 x3 x4 x5 x8 x16 x18 x23 x32 base s k =>
  bndP (fldA 1 x3) fun y0 =>
  bndO (call 59 [x0, y0] s) fun y1 s =>
  bndP (notA y1) fun y2 =>
  k (.mk x0 .top x3 x4 .top .top y2 .top .top .top) s
noncomputable def S121r4 {R : Type} (call : Nat → List AV → M AV) : W121 → Nat → AS → (W121 → AS → Option R) → Option R := @W121.rec (fun _ => Nat → AS → (W121 → AS → Option R) → Option R) fun x0 x2 x3 x4 x5 x8 x16 x18 x23 x32 base s k =>
  k (.mk .top ((.bool false) : AV) .top .top .top .top .top .top .top .top) s
noncomputable def S121r5 {R : Type} (call : Nat → List AV → M AV) : W121 → Nat → AS → (W121 → AS → Option R) → Option R := @W121.rec (fun _ => Nat → AS → (W121 → AS → Option R) → Option R) fun x0 x2 x3 x4 x5 x8 x16 x18 x23 x32 base s k =>
  bndO (call 60 [x0, ((.str [45, 62]) : AV)] s) fun y0 s =>
  k (.mk x0 .top x3 x4 .top .top .top y0 .top .top) s
noncomputable def S121r6 {R : Type} (call : Nat → List AV → M AV) : W121 → Nat → AS → (W121 → AS → Option R) → Option R := @W121.rec (fun _ => Nat → AS → (W121 → AS → Option R) → Option R) fun x0 x2 x3 x4 x5 x8 x16 x18 x23 x32 base s k =>
  bndP (fldA 0 x3) fun y0 =>
  bndO (storeQ y0 ((.int .i64 2) : AV) 1 s) fun _ s =>
  k (.mk x0 .top x3 x4 .top .top .top .top .top .top) s
noncomputable def S121r7 {R : Type} (call : Nat → List AV → M AV) : W121 → Nat → AS → (W121 → AS → Option R) → Option R := @W121.rec (fun _ => Nat → AS → (W121 → AS → Option R) → Option R) fun x0 x2 x3 x4 x5 x8 x16 x18 x23 x32 base s k =>
  bndP (fldA 2 x3) fun y0 =>
  bndO (call 59 [x0, y0] s) fun y1 s =>
  bndP (notA y1) fun y2 =>
  k (.mk x0 .top x3 x4 .top .top .top .top y2 .top) s
noncomputable def S121r8 {R : Type} (call : Nat → List AV → M AV) : W121 → Nat → AS → (W121 → AS → Option R) → Option R := @W121.rec (fun _ => Nat → AS → (W121 → AS → Option R) → Option R) fun x0 x2 x3 x4 x5 x8 x16 x18 x23 x32 base s k =>
  k (.mk .top ((.bool false) : AV) .top .top .top .top .top .top .top .top) s
noncomputable def S121r9 {R : Type} (call : Nat → List AV → M AV) : W121 → Nat → AS → (W121 → AS → Option R) → Option R := @W121.rec (fun _ => Nat → AS → (W121 → AS → Option R) → Option R) fun x0 x2 x3 x4 x5 x8 x16 x18 x23 x32 base s k =>
  bndP (loadQ true 3 x3 s.h) fun y0 =>
  bndO (call 111 [x0, y0, x4] s) fun y1 s =>
  k (.mk .top y1 .top .top .top .top .top .top .top .top) s
noncomputable def S121r10 {R : Type} (call : Nat → List AV → M AV) : W121 → Nat → AS → (W121 → AS → Option R) → Option R := @W121.rec (fun _ => Nat → AS → (W121 → AS → Option R) → Option R) fun x0 x2 x3 x4 x5 x8 x16 x18 x23 x32 base s k =>
  bndP (nilchkA x0) fun y0 =>
  bndP (fldA 4 y0) fun y1 =>
  bndP (loadQ false 1 y1 s.h) fun y2 =>
  bndP (binQ .eql y2 ((.int .i64 20) : AV)) fun y3 =>
  k (.mk x0 .top .top .top .top .top .top .top .top y3) s
noncomputable def S121r11 {R : Type} (call : Nat → List AV → M AV) : W121 → Nat → AS → (W121 → AS → Option R) → Option R := @W121.rec (fun _ => Nat → AS → (W121 → AS → Option R) → Option R) fun x0 x2 x3 x4 x5 x8 x16 x18 x23 x32 base s k =>
  bndO (call 58 [x0, ((.int .i64 10) : AV)] s) fun y0 s =>
  k (.mk .top y0 .top .top .top .top .top .top .top .top) s
noncomputable def S121r12 {R : Type} (call : Nat → List AV → M AV) : W121 → Nat → AS → (W121 → AS → Option R) → Option R := @W121.rec (fun _ => Nat → AS → (W121 → AS → Option R) → Option R) fun x0 x2 x3 x4 x5 x8 x16 x18 x23 x32 base s k =>
  bndP (nilchkA x0) fun y0 =>
  bndP (fldA 4 y0) fun y1 =>
  bndP (loadQ false 1 y1 s.h) fun y2 =>
  bndP (binQ .add y2 ((.int .i64 1) : AV)) fun y3 =>
  bndP (nilchkA x0) fun y4 =>
  bndP (fldA 4 y4) fun y5 =>
  bndO (storeQ y5 y3 1 s) fun _ s =>
  k (.mk x0 .top .top .top .top .top .top .top .top .top) s
noncomputable def S121r13 {R : Type} (call : Nat → List AV → M AV) : W121 → Nat → AS → (W121 → AS → Option R) → Option R := @W121.rec (fun _ => Nat → AS → (W121 → AS → Option R) → Option R) fun x0 x2 x3 x4 x5 x8 x16 x18 x23 x32 base s k =>
  bndO (call 90 [x0, ((.str [40]) : AV)] s) fun y0 s =>
  bndO (gd (wantG y0 true) (fun s => (pureO (some x0) s)) s) fun y1 s =>
  bndO (gd (wantG y0 true) (fun s => (call 91 [y1] s)) s) fun y2 s =>
  bndP (pickA y0 y2 ((.bool false) : AV)) fun y3 =>
  bndO (gd (wantG y3 true) (fun s => (pureO (some x0) s)) s) fun y4 s =>
  bndO (gd (wantG y3 true) (fun s => (call 90 [y4, ((.str [41]) : AV)] s)) s) fun y5 s =>
  bndP (pickA y3 y5 ((.bool false) : AV)) fun y6 =>
  k (.mk x0 .top .top .top y6 .top .top .top .top .top) s
noncomputable def S121r14 {R : Type} (call : Nat → List AV → M AV) : W121 → Nat → AS → (W121 → AS → Option R) → Option R := @W121.rec (fun _ => Nat → AS → (W121 → AS → Option R) → Option R) fun x0 x2 x3 x4 x5 x8 x16 x18 x23 x32 base s k =>
  bndP (nilchkA x0) fun y0 =>
  bndP (fldA 4 y0) fun y1 =>
  bndP (loadQ false 1 y1 s.h) fun y2 =>
  bndP (binQ .sub y2 ((.int .i64 1) : AV)) fun y3 =>
  bndP (nilchkA x0) fun y4 =>
  bndP (fldA 4 y4) fun y5 =>
  bndO (storeQ y5 y3 1 s) fun _ s =>
  k (.mk .top .top .top .top x5 .top .top .top .top .top) s
noncomputable def S121r15 {R : Type} (call : Nat → List AV → M AV) : W121 → Nat → AS → (W121 → AS → Option R) → Option R := @W121.rec (fun _ => Nat → AS → (W121 → AS → Option R) → Option R) fun x0 x2 x3 x4 x5 x8 x16 x18 x23 x32 base s k =>
  k (.mk .top x5 .top .top .top .top .top .top .top .top) s
noncomputable def S121c {R : Type} (call : Nat → List AV → M AV) (fuel : Nat) : SC V121 W121 R := sSeq (sReg 1 (S121r0 call)) (sSeq (sSeq (sReg 3 (S121r1 call)) (sCond (@W121.rec (fun _ => AV) fun _ _ _ _ _ x8 _ _ _ _ => x8) (sSeq (sReg 7 (S121r2 call)) (sSeq (sSeq (sReg 4 (S121r3 call)) (sCond (@W121.rec (fun _ => AV) fun _ _ _ _ _ _ x16 _ _ _ => x16) (sSeq (sReg 1 (S121r4 call)) (sRet)) (sSkip))) (sSeq (sSeq (sReg 2 (S121r5 call)) (sCond (@W121.rec (fun _ => AV) fun _ _ _ _ _ _ _ x18 _ _ => x18) (sSeq (sReg 2 (S121r6 call)) (sSeq (sReg 4 (S121r7 call)) (sCond (@W121.rec (fun _ => AV) fun _ _ _ _ _ _ _ _ x23 _ => x23) (sSeq (sReg 1 (S121r8 call)) (sRet)) (sSkip)))) (sSkip))) (sSeq (sReg 5 (S121r9 call)) (sRet))))) (sSkip))) (sSeq (sSeq (sReg 5 (S121r10 call)) (sCond (@W121.rec (fun _ => AV) fun _ _ _ _ _ _ _ _ _ x32 => x32) (sSeq (sReg 3 (S121r11 call)) (sRet)) (sSkip))) (sSeq (sReg 8 (S121r12 call)) (sSeq (sReg 11 (S121r13 call)) (sSeq (sReg 8 (S121r14 call)) (sSeq (sReg 2 (S121r15 call)) (sRet)))))))
noncomputable def S121e : Ex → W121 → AS → Option (AV × AS) := fun e w s => (@W121.rec (fun _ => Option (AV × AS)) fun _ x2 _ _ _ _ _ _ _ _ => @Ex.rec (fun _ => Option (AV × AS)) (some (x2, s)) (fun _ => none) (some (x2, s)) e) w
noncomputable def S121 (call : Nat → List AV → M AV) (fuel : Nat) (args : List AV) (s : AS) : Option (AV × AS) := match args with
  | [x0] => S121c call fuel x0 s S121e
  | _ => none
theorem S121_sim (call : Nat → List AV → M AV) (fuel : Nat) : Sim (R := AV × AS) call fuel mi121 mo121 A121.code (S121c call fuel) := by
  refine sim_seq (sim_reg (fun x0 _ _ _ => by kernel_rfl)) (sim_seq (sim_seq (sim_reg (fun ⟨x0, x2, x3, x4, x5, x8, x16, x18, x23, x32⟩ _ _ _ => by kernel_rfl)) (sim_cond (fun ⟨x0, x2, x3, x4, x5, x8, x16, x18, x23, x32⟩ => by kernel_rfl) (sim_seq (sim_reg (fun ⟨x0, x2, x3, x4, x5, x8, x16, x18, x23, x32⟩ _ _ _ => by kernel_rfl)) (sim_seq (sim_seq (sim_reg (fun ⟨x0, x2, x3, x4, x5, x8, x16, x18, x23, x32⟩ _ _ _ => by kernel_rfl)) (sim_cond (fun ⟨x0, x2, x3, x4, x5, x8, x16, x18, x23, x32⟩ => by kernel_rfl) (sim_seq (sim_reg (fun ⟨x0, x2, x3, x4, x5, x8, x16, x18, x23, x32⟩ _ _ _ => by kernel_rfl)) (sim_ret)) (sim_skip))) (sim_seq (sim_seq (sim_reg (fun ⟨x0, x2, x3, x4, x5, x8, x16, x18, x23, x32⟩ _ _ _ => by kernel_rfl)) (sim_cond (fun ⟨x0, x2, x3, x4, x5, x8, x16, x18, x23, x32⟩ => by kernel_rfl) (sim_seq (sim_reg (fun ⟨x0, x2, x3, x4, x5, x8, x16, x18, x23, x32⟩ _ _ _ => by kernel_rfl)) (sim_seq (sim_reg (fun ⟨x0, x2, x3, x4, x5, x8, x16, x18, x23, x32⟩ _ _ _ => by kernel_rfl)) (sim_cond (fun ⟨x0, x2, x3, x4, x5, x8, x16, x18, x23, x32⟩ => by kernel_rfl) (sim_seq (sim_reg (fun ⟨x0, x2, x3, x4, x5, x8, x16, x18, x23, x32⟩ _ _ _ => by kernel_rfl)) (sim_ret)) (sim_skip)))) (sim_skip))) (sim_seq (sim_reg (fun ⟨x0, x2, x3, x4, x5, x8, x16, x18, x23, x32⟩ _ _ _ => by kernel_rfl)) (sim_ret))))) (sim_skip))) (sim_seq (sim_seq (sim_reg (fun ⟨x0, x2, x3, x4, x5, x8, x16, x18, x23, x32⟩ _ _ _ => by kernel_rfl)) (sim_cond (fun ⟨x0, x2, x3, x4, x5, x8, x16, x18, x23, x32⟩ => by kernel_rfl) (sim_seq (sim_reg (fun ⟨x0, x2, x3, x4, x5, x8, x16, x18, x23, x32⟩ _ _ _ => by kernel_rfl)) (sim_ret)) (sim_skip))) (sim_seq (sim_reg (fun ⟨x0, x2, x3, x4, x5, x8, x16, x18, x23, x32⟩ _ _ _ => by kernel_rfl)) (sim_seq (sim_reg (fun ⟨x0, x2, x3, x4, x5, x8, x16, x18, x23, x32⟩ _ _ _ => by kernel_rfl)) (sim_seq (sim_reg (fun ⟨x0, x2, x3, x4, x5, x8, x16, x18, x23, x32⟩ _ _ _ => by kernel_rfl)) (sim_seq (sim_reg (fun ⟨x0, x2, x3, x4, x5, x8, x16, x18, x23, x32⟩ _ _ _ => by kernel_rfl)) (sim_ret)))))))
theorem S121_ok (call : Nat → List AV → M AV) (fuel : Nat) (args : List AV) (s : AS) : afn call fuel A121 args s = S121 call fuel args s := by
  rcases args with _ | ⟨x0, _ | ⟨x1, r⟩⟩
  · kernel_rfl
  · exact (afn_sim (S121_sim call fuel) (v := x0) (e2 := S121e) (by kernel_rfl) (by kernel_rfl) (fun e w s => by cases w; cases e <;> kernel_rfl)).trans (by kernel_rfl)
  · kernel_rfl
def A128 : AFn := { nargs := 1, ntmps := 39, res := [.tmp 2, .tmp 3], code := .seq (.ops [⟨0, (some 2), none, .p (.mv (.const (.int .u32 0))), []⟩, ⟨1, (some 3), none, .p (.mv (.const (.int .u32 0))), []⟩] 2 [0]) (.seq (.ops [⟨0, (some 4), none, .p (.mv (.const (.int .u32 0))), []⟩] 1 [0, 4]) (.seq (.seq (.ops [⟨0, (some 5), none, .p (.mv (.const (.int .i64 0))), []⟩] 1 [0, 4, 5]) (.block 0 (.loop (.seq (.seq (.ops [⟨0, (some 9), none, .p (.mv (.tmp 5)), []⟩, ⟨1, (some 10), none, .p (.mv (.tmp 0)), []⟩, ⟨2, (some 11), none, .p (.lenS true (.tmp 10)), []⟩, ⟨3, (some 12), none, .p (.bin .lss (.tmp 9) (.tmp 11)), []⟩] 4 [0, 4, 5, 12]) (.cond (.tmp 12) (.skip) (.exit 0))) (.seq (.block 1 (.ops [⟨0, (some 15), none, .p (.mv (.tmp 4)), []⟩, ⟨1, (some 16), none, .p (.bin .mul (.tmp 15) (.const (.int .u32 16777619))), []⟩, ⟨2, (some 17), none, .p (.mv (.tmp 0)), []⟩, ⟨3, (some 18), none, .p (.mv (.tmp 5)), []⟩, ⟨4, (some 19), none, .p (.idxs (.tmp 17) (.tmp 18)), []⟩, ⟨5, (some 20), none, .p (.conv .u32 (.tmp 19)), []⟩, ⟨6, (some 21), none, .p (.bin .add (.tmp 16) (.tmp 20)), []⟩, ⟨7, (some 4), none, .p (.mv (.tmp 21)), []⟩] 8 [0, 4, 5])) (.ops [⟨0, (some 13), none, .p (.mv (.tmp 5)), []⟩, ⟨1, (some 14), none, .p (.bin .add (.tmp 13) (.const (.int .i64 1))), []⟩, ⟨2, (some 5), none, .p (.mv (.tmp 14)), []⟩] 3 [0, 4, 5])))))) (.seq (.ops [⟨0, (some 6), none, .p (.mv (.const (.int .u32 1))), []⟩, ⟨1, (some 7), none, .p (.mv (.const (.int .u32 16777619))), []⟩] 2 [0, 4, 6, 7]) (.seq (.seq (.ops [⟨0, (some 22), none, .p (.mv (.tmp 0)), []⟩, ⟨1, (some 23), none, .p (.lenS true (.tmp 22)), []⟩, ⟨2, (some 8), none, .p (.mv (.tmp 23)), []⟩] 3 [4, 6, 7, 8]) (.block 2 (.loop (.seq (.seq (.ops [⟨0, (some 24), none, .p (.mv (.tmp 8)), []⟩, ⟨1, (some 25), none, .p (.bin .gtr (.tmp 24) (.const (.int .i64 0))), []⟩] 2 [4, 6, 7, 8, 25]) (.cond (.tmp 25) (.skip) (.exit 2))) (.seq (.block 3 (.seq (.seq (.ops [⟨0, (some 28), none, .p (.mv (.tmp 8)), []⟩, ⟨1, (some 29), none, .p (.bin .and (.tmp 28) (.const (.int .i64 1))), []⟩, ⟨2, (some 30), none, .p (.bin .neq (.tmp 29) (.const (.int .i64 0))), []⟩] 3 [4, 6, 7, 8, 30]) (.cond (.tmp 30) (.ops [⟨0, (some 31), none, .p (.mv (.tmp 6)), []⟩, ⟨1, (some 32), none, .p (.mv (.tmp 7)), []⟩, ⟨2, (some 33), none, .p (.bin .mul (.tmp 31) (.tmp 32)), []⟩, ⟨3, (some 6), none, .p (.mv (.tmp 33)), []⟩] 4 [4, 6, 7, 8]) (.skip))) (.ops [⟨0, (some 34), none, .p (.mv (.tmp 7)), []⟩, ⟨1, (some 35), none, .p (.mv (.tmp 7)), []⟩, ⟨2, (some 36), none, .p (.bin .mul (.tmp 34) (.tmp 35)), []⟩, ⟨3, (some 7), none, .p (.mv (.tmp 36)), []⟩] 4 [4, 6, 7, 8]))) (.ops [⟨0, (some 26), none, .p (.mv (.tmp 8)), []⟩, ⟨1, (some 27), none, .p (.bin .shr (.tmp 26) (.const (.int .u64 1))), []⟩, ⟨2, (some 8), none, .p (.mv (.tmp 27)), []⟩] 3 [4, 6, 7, 8])))))) (.seq (.ops [⟨0, (some 37), none, .p (.mv (.tmp 4)), []⟩, ⟨1, (some 38), none, .p (.mv (.tmp 6)), []⟩, ⟨2, (some 2), none, .p (.mv (.tmp 37)), []⟩, ⟨3, (some 3), none, .p (.mv (.tmp 38)), []⟩] 4 [2, 3]) (.ret)))))) }
def N128 : Notes := { note := fun _ => none, keep := fun | 13 => [2, 3] | 9 => [4, 6, 7, 8] | 12 => [4, 6, 7, 8] | 11 => [4, 6, 7, 8] | 10 => [4, 6, 7, 8, 30] | 8 => [4, 6, 7, 8, 25] | 7 => [4, 6, 7, 8] | 6 => [0, 4, 6, 7] | 4 => [0, 4, 5] | 5 => [0, 4, 5] | 3 => [0, 4, 5, 12] | 2 => [0, 4, 5] | 1 => [0, 4] | 0 => [0] | _ => [] }
theorem A128_ok : cFn Try.prog qf N128 Try.f128 = some A128 := by kernel_rfl
inductive W128 where
  | mk (x0 x2 x3 x4 x5 x6 x7 x8 x12 x25 x30 : AV)
abbrev V128 := AV
def mo128 : W128 → Fr := fun ⟨x0, x2, x3, x4, x5, x6, x7, x8, x12, x25, x30⟩ => [x0, .top, x2, x3, x4, x5, x6, x7, x8, .top, .top, .top, x12, .top, .top, .top, .top, .top, .top, .top, .top, .top, .top, .top, .top, x25, .top, .top, .top, .top, x30, .top, .top, .top, .top, .top, .top, .top, .top]
def mi128 : V128 → Fr := fun x0 => [x0, .tup [], .tup [], .tup [], .tup [], .tup [], .tup [], .tup [], .tup [], .tup [], .tup [], .tup [], .tup [], .tup [], .tup [], .tup [], .tup [], .tup [], .tup [], .tup [], .tup [], .tup [], .tup [], .tup [], .tup [], .tup [], .tup [], .tup [], .tup [], .tup [], .tup [], .tup [], .tup [], .tup [], .tup [], .tup [], .tup [], .tup [], .tup []]
noncomputable def S128r0 {R : Type} (call : Nat → List AV → M AV) : V128 → Nat → AS → (W128 → AS → Option R) → Option R := fun x0 base s k =>
  k (.mk x0 .top .top .top .top .top .top .top .top .top .top) s
noncomputable def S128r1 {R : Type} (call : Nat → List AV → M AV) : W128 → Nat → AS → (W128 → AS → Option R) → Option R := @W128.rec (fun _ => Nat → AS → (W128 → AS → Option R) → Option R) fun x0 x2 x3 x4 x5 x6 x7 x8 x12 x25 x30 base s k =>
  k (.mk x0 .top .top ((.int .u32 0) : AV) .top .top .top .top .top .top .top) s
noncomputable def S128r2 {R : Type} (call : Nat → List AV → M AV) : W128 → Nat → AS → (W128 → AS → Option R) → Option R := @W128.rec (fun _ => Nat → AS → (W128 → AS → Option R) → Option R) fun x0 x2 x3 x4 x5 x6 x7 x8 x12 x25 x30 base s k =>
  k (.mk x0 .top .top x4 ((.int .i64 0) : AV) .top .top .top .top .top .top) s
noncomputable def S128r3 {R : Type} (call : Nat → List AV → M AV) : W128 → Nat → AS → (W128 → AS → Option R) → Option R := @W128.rec (fun _ => Nat → AS → (W128 → AS → Option R) → Option R) fun x0 x2 x3 x4 x5 x6 x7 x8 x12 x25 x30 base s k =>
  bndP (lenAQ true x0) fun y0 =>
  bndP (binQ .lss x5 y0) fun y1 =>
  k (.mk x0 .top .top x4 x5 .top .top .top y1 .top .top) s
noncomputable def S128r4 {R : Type} (call : Nat → List AV → M AV) : W128 → Nat → AS → (W128 → AS → Option R) → Option R := @W128.rec (fun _ => Nat → AS → (W128 → AS → Option R) → Option R) fun x0 x2 x3 x4 x5 x6 x7 x8 x12 x25 x30 base s k =>
  bndP (binQ .mul x4 ((.int .u32 16777619) : AV)) fun y0 =>
  bndP (idxsQ x0 x5) fun y1 =>
  bndP (convA .u32 y1) fun y2 =>
  bndP (binQ .add y0 y2) fun y3 =>
  k (.mk x0 .top .top y3 x5 .top .top .top .top .top .top) s
noncomputable def S128r5 {R : Type} (call : Nat → List AV → M AV) : W128 → Nat → AS → (W128 → AS → Option R) → Option R := @W128.rec (fun _ => Nat → AS → (W128 → AS → Option R) → Option R) fun x0 x2 x3 x4 x5 x6 x7 x8 x12 x25 x30 base s k =>
  bndP (binQ .add x5 ((.int .i64 1) : AV)) fun y0 =>
  k (.mk x0 .top .top x4 y0 .top .top .top .top .top .top) s
noncomputable def S128b6 {R : Type} (call : Nat → List AV → M AV) (fuel : Nat) : SC W128 W128 R := sSeq (sSeq (sReg 4 (S128r3 call)) (sCond (@W128.rec (fun _ => AV) fun _ _ _ _ _ _ _ _ x12 _ _ => x12) (sSkip) (sExit 0))) (sSeq (sBlock 1 (sReg 8 (S128r4 call))) (sReg 3 (S128r5 call)))
noncomputable def S128r7 {R : Type} (call : Nat → List AV → M AV) : W128 → Nat → AS → (W128 → AS → Option R) → Option R := @W128.rec (fun _ => Nat → AS → (W128 → AS → Option R) → Option R) fun x0 x2 x3 x4 x5 x6 x7 x8 x12 x25 x30 base s k =>
  k (.mk x0 .top .top x4 .top ((.int .u32 1) : AV) ((.int .u32 16777619) : AV) .top .top .top .top) s
noncomputable def S128r8 {R : Type} (call : Nat → List AV → M AV) : W128 → Nat → AS → (W128 → AS → Option R) → Option R := @W128.rec (fun _ => Nat → AS → (W128 → AS → Option R) → Option R) fun x0 x2 x3 x4 x5 x6 x7 x8 x12 x25 x30 base s k =>
  bndP (lenAQ true x0) fun y0 =>
  k (.mk .top .top .top x4 .top x6 x7 y0 .top .top .top) s
noncomputable def S128r9 {R : Type} (call : Nat → List AV → M AV) : W128 → Nat → AS → (W128 → AS → Option R) → Option R := @W128.rec (fun _ => Nat → AS → (W128 → AS → Option R) → Option R) fun x0 x2 x3 x4 x5 x6 x7 x8 x12 x25 x30 base s k =>
  bndP (binQ .gtr x8 ((.int .i64 0) : AV)) fun y0 =>
  k (.mk .top .top .top x4 .top x6 x7 x8 .top y0 .top) s
noncomputable def S128r10 {R : Type} (call : Nat → List AV → M AV) : W128 → Nat → AS → (W128 → AS → Option R) → Option R := @W128.rec (fun _ => Nat → AS → (W128 → AS → Option R) → Option R) fun x0 x2 x3 x4 x5 x6 x7 x8 x12 x25 x30 base s k =>
  bndP (binQ .and x8 ((.int .i64 1) : AV)) fun y0 =>
  bndP (binQ .neq y0 ((.int .i64 0) : AV)) fun y1 =>
  k (.mk .top .top .top x4 .top x6 x7 x8 .top .top y1) s
noncomputable def S128r11 {R : Type} (call : Nat → List AV → M AV) : W128 → Nat → AS → (W128 → AS → Option R) → Option R := @W128.rec (fun _ => Nat → AS → (W128 → AS → Option R) → Option R) fun x0 x2 x3 x4 x5 x6 x7 x8 x12 x25 x30 base s k =>
  bndP (binQ .mul x6 x7) fun y0 =>
  k (.mk .top .top .top x4 .top y0 x7 x8 .top .top .top) s
noncomputable def S128r12 {R : Type} (call : Nat → List AV → M AV) : W128 → Nat → AS → (W128 → AS → Option R) → Option R := @W128.rec (fun _ => Nat → AS → (W128 → AS → Option R) → Option R) fun x0 x2 x3 x4 x5 x6 x7 x8 x12 x25 x30 base s k =>
  bndP (binQ .mul x7 x7) fun y0 =>
  k (.mk .top .top .top x4 .top x6 y0 x8 .top .top .top) s
noncomputable def S128r13 {R : Type} (call : Nat → List AV → M AV) : W128 → Nat → AS → (W128 → AS → Option R) → Option R := @W128.rec (fun _ => Nat → AS → (W128 → AS → Option R) → Option R) fun x0 x2 x3 x4 x5 x6 x7 x8 x12 x25 x30 base s k =>
  bndP (binQ .shr x8 ((.int .u64 1) : AV)) fun y0 =>
  k (.mk .top .top .top x4 .top x6 x7 y0 .top .top .top) s
noncomputable def S128b14 {R : Type} (call : Nat → List AV → M AV) (fuel : Nat) : SC W128 W128 R := sSeq (sSeq (sReg 2 (S128r9 call)) (sCond (@W128.rec (fun _ => AV) fun _ _ _ _ _ _ _ _ _ x25 _ => x25) (sSkip) (sExit 2))) (sSeq (sBlock 3 (sSeq (sSeq (sReg 3 (S128r10 call)) (sCond (@W128.rec (fun _ => AV) fun _ _ _ _ _ _ _ _ _ _ x30 => x30) (sReg 4 (S128r11 call)) (sSkip))) (sReg 4 (S128r12 call)))) (sReg 3 (S128r13 call)))
noncomputable def S128r15 {R : Type} (call : Nat → List AV → M AV) : W128 → Nat → AS → (W128 → AS → Option R) → Option R := @W128.rec (fun _ => Nat → AS → (W128 → AS → Option R) → Option R) fun x0 x2 x3 x4 x5 x6 x7 x8 x12 x25 x30 base s k =>
  k (.mk .top x4 x6 .top .top .top .top .top .top .top .top) s
noncomputable def S128c {R : Type} (call : Nat → List AV → M AV) (fuel : Nat) : SC V128 W128 R := sSeq (sReg 2 (S128r0 call)) (sSeq (sReg 1 (S128r1 call)) (sSeq (sSeq (sReg 1 (S128r2 call)) (sBlock 0 (sLoop fuel (S128b6 call fuel)))) (sSeq (sReg 2 (S128r7 call)) (sSeq (sSeq (sReg 3 (S128r8 call)) (sBlock 2 (sLoop fuel (S128b14 call fuel)))) (sSeq (sReg 4 (S128r15 call)) (sRet))))))
noncomputable def S128e : Ex → W128 → AS → Option (AV × AS) := fun e w s => (@W128.rec (fun _ => Option (AV × AS)) fun _ x2 x3 _ _ _ _ _ _ _ _ => @Ex.rec (fun _ => Option (AV × AS)) (some (.tup [x2, x3], s)) (fun _ => none) (some (.tup [x2, x3], s)) e) w
noncomputable def S128 (call : Nat → List AV → M AV) (fuel : Nat) (args : List AV) (s : AS) : Option (AV × AS) := match args with
  | [x0] => S128c call fuel x0 s S128e
  | _ => none
theorem S128_sim (call : Nat → List AV → M AV) (fuel : Nat) : Sim (R := AV × AS) call fuel mi128 mo128 A128.code (S128c call fuel) := by
  refine sim_seq (sim_reg (fun x0 _ _ _ => by kernel_rfl)) (sim_seq (sim_reg (fun ⟨x0, x2, x3, x4, x5, x6, x7, x8, x12, x25, x30⟩ _ _ _ => by kernel_rfl)) (sim_seq (sim_seq (sim_reg (fun ⟨x0, x2, x3, x4, x5, x6, x7, x8, x12, x25, x30⟩ _ _ _ => by kernel_rfl)) (sim_block (sim_loop (sim_seq (sim_seq (sim_reg (fun ⟨x0, x2, x3, x4, x5, x6, x7, x8, x12, x25, x30⟩ _ _ _ => by kernel_rfl)) (sim_cond (fun ⟨x0, x2, x3, x4, x5, x6, x7, x8, x12, x25, x30⟩ => by kernel_rfl) (sim_skip) (sim_exit))) (sim_seq (sim_block (sim_reg (fun ⟨x0, x2, x3, x4, x5, x6, x7, x8, x12, x25, x30⟩ _ _ _ => by kernel_rfl))) (sim_reg (fun ⟨x0, x2, x3, x4, x5, x6, x7, x8, x12, x25, x30⟩ _ _ _ => by kernel_rfl))))))) (sim_seq (sim_reg (fun ⟨x0, x2, x3, x4, x5, x6, x7, x8, x12, x25, x30⟩ _ _ _ => by kernel_rfl)) (sim_seq (sim_seq (sim_reg (fun ⟨x0, x2, x3, x4, x5, x6, x7, x8, x12, x25, x30⟩ _ _ _ => by kernel_rfl)) (sim_block (sim_loop (sim_seq (sim_seq (sim_reg (fun ⟨x0, x2, x3, x4, x5, x6, x7, x8, x12, x25, x30⟩ _ _ _ => by kernel_rfl)) (sim_cond (fun ⟨x0, x2, x3, x4, x5, x6, x7, x8, x12, x25, x30⟩ => by kernel_rfl) (sim_skip) (sim_exit))) (sim_seq (sim_block (sim_seq (sim_seq (sim_reg (fun ⟨x0, x2, x3, x4, x5, x6, x7, x8, x12, x25, x30⟩ _ _ _ => by kernel_rfl)) (sim_cond (fun ⟨x0, x2, x3, x4, x5, x6, x7, x8, x12, x25, x30⟩ => by kernel_rfl) (sim_reg (fun ⟨x0, x2, x3, x4, x5, x6, x7, x8, x12, x25, x30⟩ _ _ _ => by kernel_rfl)) (sim_skip))) (sim_reg (fun ⟨x0, x2, x3, x4, x5, x6, x7, x8, x12, x25, x30⟩ _ _ _ => by kernel_rfl)))) (sim_reg (fun ⟨x0, x2, x3, x4, x5, x6, x7, x8, x12, x25, x30⟩ _ _ _ => by kernel_rfl))))))) (sim_seq (sim_reg (fun ⟨x0, x2, x3, x4, x5, x6, x7, x8, x12, x25, x30⟩ _ _ _ => by kernel_rfl)) (sim_ret))))))
theorem S128_ok (call : Nat → List AV → M AV) (fuel : Nat) (args : List AV) (s : AS) : afn call fuel A128 args s = S128 call fuel args s := by
  rcases args with _ | ⟨x0, _ | ⟨x1, r⟩⟩
  · kernel_rfl
  · exact (afn_sim (S128_sim call fuel) (v := x0) (e2 := S128e) (by kernel_rfl) (by kernel_rfl) (fun e w s => by cases w; cases e <;> kernel_rfl)).trans (by kernel_rfl)
  · kernel_rfl
end Go.Proofs.Ytgcciohenncplaa.Ai
