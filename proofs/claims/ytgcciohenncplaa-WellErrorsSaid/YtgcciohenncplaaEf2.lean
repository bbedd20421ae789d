/- Functions told without frames, and that they answer as the code does. -/
import Derived.Test.YtgcciohenncplaaEf0
set_option linter.all false
namespace Go.Proofs.Ytgcciohenncplaa.Ai
def A125 : AFn := { nargs := 1, ntmps := 79, res := [], code := .seq (.ops [⟨0, (some 5), none, .p (.mv (.tmp 0)), []⟩, ⟨1, (some 6), none, .e (.call true 99 [.tmp 5]), []⟩, ⟨2, (some 2), none, .p (.mv (.tmp 6)), []⟩] 3 [0, 2]) (.seq (.seq (.ops [⟨0, (some 7), none, .p (.mv (.tmp 0)), []⟩, ⟨1, (some 8), none, .p (.nilchk (.tmp 7)), []⟩, ⟨2, (some 9), none, .p (.fld 3 (.tmp 8)), []⟩, ⟨3, (some 10), none, .r (.load false 1 (.tmp 9)), []⟩, ⟨4, (some 11), none, .p (.bin .eql (.tmp 10) (.const (.int .i64 0))), []⟩, ⟨5, (some 12), none, .p (.mv (.tmp 11)), []⟩, ⟨6, (some 13), (some (12, true)), .p (.mv (.tmp 0)), []⟩, ⟨7, (some 14), (some (12, true)), .e (.call true 73 [.tmp 13, .const (.str [40])]), []⟩, ⟨8, (some 15), none, .p (.pick (.tmp 12) (.tmp 14) (.const (.bool false))), []⟩] 9 [0, 2, 15]) (.cond (.tmp 15) (.seq (.seq (.ops [⟨0, (some 16), none, .p (.mv (.tmp 0)), []⟩, ⟨1, (some 17), none, .p (.nilchk (.tmp 16)), []⟩, ⟨2, (some 18), none, .p (.fld 5 (.tmp 17)), []⟩, ⟨3, (some 19), none, .r (.load false 1 (.tmp 18)), []⟩, ⟨4, (some 20), none, .p (.bin .eql (.tmp 19) (.const (.int .i64 20))), []⟩] 5 [0, 20]) (.cond (.tmp 20) (.seq (.ops [⟨0, (some 21), none, .p (.mv (.tmp 0)), []⟩, ⟨1, (some 22), none, .e (.call false 71 [.tmp 21, .const (.int .i64 10)]), []⟩] 2 []) (.ret)) (.skip))) (.seq (.ops [⟨0, (some 23), none, .p (.mv (.tmp 0)), []⟩, ⟨1, (some 24), none, .p (.nilchk (.tmp 23)), []⟩, ⟨2, (some 25), none, .p (.fld 5 (.tmp 24)), []⟩, ⟨3, (some 26), none, .r (.load false 1 (.tmp 25)), []⟩, ⟨4, (some 27), none, .p (.bin .add (.tmp 26) (.const (.int .i64 1))), []⟩, ⟨5, (some 28), none, .p (.nilchk (.tmp 23)), []⟩, ⟨6, (some 29), none, .p (.fld 5 (.tmp 28)), []⟩, ⟨7, none, none, .e (.store (.tmp 29) (.tmp 27) 1), []⟩] 8 [0]) (.seq (.ops [⟨0, (some 30), none, .p (.mv (.tmp 0)), []⟩, ⟨1, (some 31), none, .p (.nilchk (.tmp 30)), []⟩, ⟨2, (some 32), none, .p (.fld 1 (.tmp 31)), []⟩, ⟨3, (some 33), none, .r (.load false 1 (.tmp 32)), []⟩, ⟨4, (some 34), none, .p (.bin .add (.tmp 33) (.const (.int .i64 1))), []⟩, ⟨5, (some 35), none, .p (.nilchk (.tmp 30)), []⟩, ⟨6, (some 36), none, .p (.fld 1 (.tmp 35)), []⟩, ⟨7, none, none, .e (.store (.tmp 36) (.tmp 34) 1), []⟩] 8 [0]) (.seq (.ops [⟨0, (some 37), none, .p (.mv (.tmp 0)), []⟩, ⟨1, (some 38), none, .e (.call false 101 [.tmp 37]), []⟩] 2 [0]) (.seq (.ops [⟨0, (some 39), none, .p (.mv (.tmp 0)), []⟩, ⟨1, (some 40), none, .e (.call false 75 [.tmp 39, .const (.str [41])]), []⟩] 2 [0]) (.seq (.ops [⟨0, (some 41), none, .p (.mv (.tmp 0)), []⟩, ⟨1, (some 42), none, .p (.nilchk (.tmp 41)), []⟩, ⟨2, (some 43), none, .p (.fld 5 (.tmp 42)), []⟩, ⟨3, (some 44), none, .r (.load false 1 (.tmp 43)), []⟩, ⟨4, (some 45), none, .p (.bin .sub (.tmp 44) (.const (.int .i64 1))), []⟩, ⟨5, (some 46), none, .p (.nilchk (.tmp 41)), []⟩, ⟨6, (some 47), none, .p (.fld 5 (.tmp 46)), []⟩, ⟨7, none, none, .e (.store (.tmp 47) (.tmp 45) 1), []⟩] 8 []) (.ret))))))) (.skip))) (.seq (.ops [⟨0, (some 48), none, .p (.mv (.tmp 0)), []⟩, ⟨1, (some 49), none, .e (.call false 72 [.tmp 48]), []⟩, ⟨2, (some 3), none, .p (.mv (.tmp 49)), []⟩] 3 [0, 2, 3]) (.seq (.seq (.ops [⟨0, (some 50), none, .p (.mv (.tmp 0)), []⟩, ⟨1, (some 51), none, .p (.nilchk (.tmp 50)), []⟩, ⟨2, (some 52), none, .p (.fld 3 (.tmp 51)), []⟩, ⟨3, (some 53), none, .r (.load false 1 (.tmp 52)), []⟩, ⟨4, (some 54), none, .p (.bin .eql (.tmp 53) (.const (.int .i64 0))), []⟩, ⟨5, (some 55), none, .p (.mv (.tmp 54)), []⟩, ⟨6, (some 56), (some (55, true)), .p (.mv (.tmp 0)), []⟩, ⟨7, (some 57), (some (55, true)), .e (.call true 73 [.tmp 56, .const (.str [45, 62])]), []⟩, ⟨8, (some 58), none, .p (.pick (.tmp 55) (.tmp 57) (.const (.bool false))), []⟩] 9 [0, 2, 3, 58]) (.cond (.tmp 58) (.seq (.ops [⟨0, (some 59), none, .p (.mv (.tmp 0)), []⟩, ⟨1, (some 60), none, .p (.nilchk (.tmp 59)), []⟩, ⟨2, (some 61), none, .p (.fld 1 (.tmp 60)), []⟩, ⟨3, (some 62), none, .r (.load false 1 (.tmp 61)), []⟩, ⟨4, (some 63), none, .p (.bin .add (.tmp 62) (.const (.int .i64 1))), []⟩, ⟨5, (some 64), none, .p (.nilchk (.tmp 59)), []⟩, ⟨6, (some 65), none, .p (.fld 1 (.tmp 64)), []⟩, ⟨7, none, none, .e (.store (.tmp 65) (.tmp 63) 1), []⟩] 8 [0, 2, 3]) (.seq (.ops [⟨0, (some 66), none, .p (.mv (.tmp 0)), []⟩, ⟨1, (some 67), none, .e (.call false 72 [.tmp 66]), []⟩, ⟨2, (some 4), none, .p (.mv (.tmp 67)), []⟩] 3 [0, 2, 3, 4]) (.seq (.ops [⟨0, (some 68), none, .p (.mv (.tmp 0)), []⟩, ⟨1, (some 69), none, .p (.mv (.tmp 3)), []⟩, ⟨2, (some 70), none, .p (.mv (.tmp 4)), []⟩, ⟨3, (some 71), none, .p (.build [.int .i64 0, .str [], .str []] [(0, 1, .const (.int .i64 2)), (1, 1, .tmp 69), (2, 1, .tmp 70)]), []⟩, ⟨4, (some 72), none, .p (.mv (.tmp 2)), []⟩, ⟨5, (some 73), none, .e (.call false 114 [.tmp 68, .tmp 71, .tmp 72]), []⟩] 6 []) (.ret)))) (.skip))) (.ops [⟨0, (some 74), none, .p (.mv (.tmp 0)), []⟩, ⟨1, (some 75), none, .p (.mv (.tmp 3)), []⟩, ⟨2, (some 76), none, .p (.build [.int .i64 0, .str [], .str []] [(0, 1, .const (.int .i64 1)), (1, 1, .tmp 75)]), []⟩, ⟨3, (some 77), none, .p (.mv (.tmp 2)), []⟩, ⟨4, (some 78), none, .e (.call false 114 [.tmp 74, .tmp 76, .tmp 77]), []⟩] 5 [])))) }
def N125 : Notes := { note := fun _ => none, keep := fun | 14 => [] | 13 => [] | 12 => [0, 2, 3, 4] | 11 => [0, 2, 3] | 10 => [0, 2, 3, 58] | 9 => [0, 2, 3] | 8 => [] | 7 => [0] | 6 => [0] | 5 => [0] | 4 => [0] | 3 => [] | 2 => [0, 20] | 1 => [0, 2, 15] | 0 => [0, 2] | _ => [] }
theorem A125_ok : cFn Try.prog qf N125 Try.f125 = some A125 := by kernel_rfl
inductive W125 where
  | mk (x0 x2 x3 x4 x15 x20 x58 : AV)
abbrev V125 := AV
def mo125 : W125 → Fr := fun ⟨x0, x2, x3, x4, x15, x20, x58⟩ => [x0, .top, x2, x3, x4, .top, .top, .top, .top, .top, .top, .top, .top, .top, .top, x15, .top, .top, .top, .top, x20, .top, .top, .top, .top, .top, .top, .top, .top, .top, .top, .top, .top, .top, .top, .top, .top, .top, .top, .top, .top, .top, .top, .top, .top, .top, .top, .top, .top, .top, .top, .top, .top, .top, .top, .top, .top, .top, x58, .top, .top, .top, .top, .top, .top, .top, .top, .top, .top, .top, .top, .top, .top, .top, .top, .top, .top, .top, .top]
def mi125 : V125 → Fr := fun x0 => [x0, .tup [], .tup [], .tup [], .tup [], .tup [], .tup [], .tup [], .tup [], .tup [], .tup [], .tup [], .tup [], .tup [], .tup [], .tup [], .tup [], .tup [], .tup [], .tup [], .tup [], .tup [], .tup [], .tup [], .tup [], .tup [], .tup [], .tup [], .tup [], .tup [], .tup [], .tup [], .tup [], .tup [], .tup [], .tup [], .tup [], .tup [], .tup [], .tup [], .tup [], .tup [], .tup [], .tup [], .tup [], .tup [], .tup [], .tup [], .tup [], .tup [], .tup [], .tup [], .tup [], .tup [], .tup [], .tup [], .tup [], .tup [], .tup [], .tup [], .tup [], .tup [], .tup [], .tup [], .tup [], .tup [], .tup [], .tup [], .tup [], .tup [], .tup [], .tup [], .tup [], .tup [], .tup [], .tup [], .tup [], .tup [], .tup []]
noncomputable def S125r0 {R : Type} (call : Nat → List AV → M AV) : V125 → Nat → AS → (W125 → AS → Option R) → Option R := fun x0 base s k =>
  bndO (quietQ call 99 [x0] s) fun y0 s =>
  k (.mk x0 y0 .top .top .top .top .top) s
noncomputable def S125r1 {R : Type} (call : Nat → List AV → M AV) : W125 → Nat → AS → (W125 → AS → Option R) → Option R := @W125.rec (fun _ => Nat → AS → (W125 → AS → Option R) → Option R) fun x0 x2 x3 x4 x15 x20 x58 base s k =>
  bndP (nilchkA x0) fun y0 =>
  bndP (fldA 3 y0) fun y1 =>
  bndP (loadQ false 1 y1 s.h) fun y2 =>
  bndP (binQ .eql y2 ((.int .i64 0) : AV)) fun y3 =>
  bndO (gd (wantG y3 true) (fun s => (pureO (some x0) s)) s) fun y4 s =>
  bndO (gd (wantG y3 true) (fun s => (quietQ call 73 [y4, ((.str [40]) : AV)] s)) s) fun y5 s =>
  bndP (pickA y3 y5 ((.bool false) : AV)) fun y6 =>
  k (.mk x0 x2 .top .top y6 .top .top) s
noncomputable def S125r2 {R : Type} (call : Nat → List AV → M AV) : W125 → Nat → AS → (W125 → AS → Option R) → Option R := @W125.rec (fun _ => Nat → AS → (W125 → AS → Option R) → Option R) fun x0 x2 x3 x4 x15 x20 x58 base s k =>
  bndP (nilchkA x0) fun y0 =>
  bndP (fldA 5 y0) fun y1 =>
  bndP (loadQ false 1 y1 s.h) fun y2 =>
  bndP (binQ .eql y2 ((.int .i64 20) : AV)) fun y3 =>
  k (.mk x0 .top .top .top .top y3 .top) s
noncomputable def S125r3 {R : Type} (call : Nat → List AV → M AV) : W125 → Nat → AS → (W125 → AS → Option R) → Option R := @W125.rec (fun _ => Nat → AS → (W125 → AS → Option R) → Option R) fun x0 x2 x3 x4 x15 x20 x58 base s k =>
  bndO (call 71 [x0, ((.int .i64 10) : AV)] s) fun y0 s =>
  k (.mk .top .top .top .top .top .top .top) s
noncomputable def S125r4 {R : Type} (call : Nat → List AV → M AV) : W125 → Nat → AS → (W125 → AS → Option R) → Option R := @W125.rec (fun _ => Nat → AS → (W125 → AS → Option R) → Option R) fun x0 x2 x3 x4 x15 x20 x58 base s k =>
  bndP (nilchkA x0) fun y0 =>
  bndP (fldA 5 y0) fun y1 =>
  bndP (loadQ false 1 y1 s.h) fun y2 =>
  bndP (binQ .add y2 ((.int .i64 1) : AV)) fun y3 =>
  bndP (nilchkA x0) fun y4 =>
  bndP (fldA 5 y4) fun y5 =>
  bndO (storeQ y5 y3 1 s) fun _ s =>
  k (.mk x0 .top .top .top .top .top .top) s
noncomputable def S125r5 {R : Type} (call : Nat → List AV → M AV) : W125 → Nat → AS → (W125 → AS → Option R) → Option R := @W125.rec (fun _ => Nat → AS → (W125 → AS → Option R) → Option R) fun x0 x2 x3 x4 x15 x20 x58 base s k =>
  bndP (nilchkA x0) fun y0 =>
  bndP (fldA 1 y0) fun y1 =>
  bndP (loadQ false 1 y1 s.h) fun y2 =>
  bndP (binQ .add y2 ((.int .i64 1) : AV)) fun y3 =>
  bndP (nilchkA x0) fun y4 =>
  bndP (fldA 1 y4) fun y5 =>
  bndO (storeQ y5 y3 1 s) fun _ s =>
  k (.mk x0 .top .top .top .top .top .top) s
noncomputable def S125r6 {R : Type} (call : Nat → List AV → M AV) : W125 → Nat → AS → (W125 → AS → Option R) → Option R := @W125.rec (fun _ => Nat → AS → (W125 → AS → Option R) → Option R) fun x0 x2 x3 x4 x15 x20 x58 base s k =>
  bndO (call 101 [x0] s) fun y0 s =>
  k (.mk x0 .top .top .top .top .top .top) s
noncomputable def S125r7 {R : Type} (call : Nat → List AV → M AV) : W125 → Nat → AS → (W125 → AS → Option R) → Option R := @W125.rec (fun _ => Nat → AS → (W125 → AS → Option R) → Option R) fun x0 x2 x3 x4 x15 x20 x58 base s k =>
  bndO (call 75 [x0, ((.str [41]) : AV)] s) fun y0 s =>
  k (.mk x0 .top .top .top .top .top .top) s
noncomputable def S125r8 {R : Type} (call : Nat → List AV → M AV) : W125 → Nat → AS → (W125 → AS → Option R) → Option R := @W125.rec (fun _ => Nat → AS → (W125 → AS → Option R) → Option R) fun x0 x2 x3 x4 x15 x20 x58 base s k =>
  bndP (nilchkA x0) fun y0 =>
  bndP (fldA 5 y0) fun y1 =>
  bndP (loadQ false 1 y1 s.h) fun y2 =>
  bndP (binQ .sub y2 ((.int .i64 1) : AV)) fun y3 =>
  bndP (nilchkA x0) fun y4 =>
  bndP (fldA 5 y4) fun y5 =>
  bndO (storeQ y5 y3 1 s) fun _ s =>
  k (.mk .top .top .top .top .top .top .top) s
noncomputable def S125r9 {R : Type} (call : Nat → List AV → M AV) : W125 → Nat → AS → (W125 → AS → Option R) → Option R := @W125.rec (fun _ => Nat → AS → (W125 → AS → Option R) → Option R) fun x0 x2 x3 x4 x15 x20 x58 base s k =>
  bndO (call 72 [x0] s) fun y0 s =>
  k (.mk x0 x2 y0 .top .top .top .top) s
noncomputable def S125r10 {R : Type} (call : Nat → List AV → M AV) : W125 → Nat → AS → (W125 → AS → Option R) → Option R := @W125.rec (fun _ => Nat → AS → (W125 → AS → Option R) → Option R) fun x0 x2 x3 x4 x15 x20 x58 base s k =>
  bndP (nilchkA x0) fun y0 =>
  bndP (fldA 3 y0) fun y1 =>
  bndP (loadQ false 1 y1 s.h) fun y2 =>
  bndP (binQ .eql y2 ((.int .i64 0) : AV)) fun y3 =>
  bndO (gd (wantG y3 true) (fun s => (pureO (some x0) s)) s) fun y4 s =>
  bndO (gd (wantG y3 true) (fun s => (quietQ call 73 [y4, ((.str [45, 62]) : AV)] s)) s) fun y5 s =>
  bndP (pickA y3 y5 ((.bool false) : AV)) fun y6 =>
  k (.mk x0 x2 x3 .top .top .top y6) s
noncomputable def S125r11 {R : Type} (call : Nat → List AV → M AV) : W125 → Nat → AS → (W125 → AS → Option R) → Option R := @W125.rec (fun _ => Nat → AS → (W125 → AS → Option R) → Option R) fun x0 x2 x3 x4 x15 x20 x58 base s k =>
  bndP (nilchkA x0) fun y0 =>
  bndP (fldA 1 y0) fun y1 =>
  bndP (loadQ false 1 y1 s.h) fun y2 =>
  bndP (binQ .add y2 ((.int .i64 1) : AV)) fun y3 =>
  bndP (nilchkA x0) fun y4 =>
  bndP (fldA 1 y4) fun y5 =>
  bndO (storeQ y5 y3 1 s) fun _ s =>
  k (.mk x0 x2 x3 .top .top .top .top) s
noncomputable def S125r12 {R : Type} (call : Nat → List AV → M AV) : W125 → Nat → AS → (W125 → AS → Option R) → Option R := @W125.rec (fun _ => Nat → AS → (W125 → AS → Option R) → Option R) fun x0 x2 x3 x4 x15 x20 x58 base s k =>
  bndO (call 72 [x0] s) fun y0 s =>
  k (.mk x0 x2 x3 y0 .top .top .top) s
noncomputable def S125r13 {R : Type} (call : Nat → List AV → M AV) : W125 → Nat → AS → (W125 → AS → Option R) → Option R := @W125.rec (fun _ => Nat → AS → (W125 → AS → Option R) → Option R) fun x0 x2 x3 x4 x15 x20 x58 base s k =>
  bndP (buildA [(.int .i64 0), (.str []), (.str [])] [(0, 1, ((.int .i64 2) : AV)), (1, 1, x3), (2, 1, x4)]) fun y0 =>
  bndO (call 114 [x0, y0, x2] s) fun y1 s =>
  k (.mk .top .top .top .top .top .top .top) s
noncomputable def S125r14 {R : Type} (call : Nat → List AV → M AV) : W125 → Nat → AS → (W125 → AS → Option R) → Option R := @W125.rec (fun _ => Nat → AS → (W125 → AS → Option R) → Option R) fun x0 x2 x3 x4 x15 x20 x58 base s k =>
  bndP (buildA [(.int .i64 0), (.str []), (.str [])] [(0, 1, ((.int .i64 1) : AV)), (1, 1, x3)]) fun y0 =>
  bndO (call 114 [x0, y0, x2] s) fun y1 s =>
  k (.mk .top .top .top .top .top .top .top) s
noncomputable def S125c {R : Type} (call : Nat → List AV → M AV) (fuel : Nat) : SC V125 W125 R := sSeq (sReg 3 (S125r0 call)) (sSeq (sSeq (sReg 9 (S125r1 call)) (sCond (@W125.rec (fun _ => AV) fun _ _ _ _ x15 _ _ => x15) (sSeq (sSeq (sReg 5 (S125r2 call)) (sCond (@W125.rec (fun _ => AV) fun _ _ _ _ _ x20 _ => x20) (sSeq (sReg 2 (S125r3 call)) (sRet)) (sSkip))) (sSeq (sReg 8 (S125r4 call)) (sSeq (sReg 8 (S125r5 call)) (sSeq (sReg 2 (S125r6 call)) (sSeq (sReg 2 (S125r7 call)) (sSeq (sReg 8 (S125r8 call)) (sRet))))))) (sSkip))) (sSeq (sReg 3 (S125r9 call)) (sSeq (sSeq (sReg 9 (S125r10 call)) (sCond (@W125.rec (fun _ => AV) fun _ _ _ _ _ _ x58 => x58) (sSeq (sReg 8 (S125r11 call)) (sSeq (sReg 3 (S125r12 call)) (sSeq (sReg 6 (S125r13 call)) (sRet)))) (sSkip))) (sReg 5 (S125r14 call)))))
noncomputable def S125e : Ex → W125 → AS → Option (AV × AS) := fun e w s => (@W125.rec (fun _ => Option (AV × AS)) fun _ _ _ _ _ _ _ => @Ex.rec (fun _ => Option (AV × AS)) (some (.tup [], s)) (fun _ => none) (some (.tup [], s)) e) w
noncomputable def S125 (call : Nat → List AV → M AV) (fuel : Nat) (args : List AV) (s : AS) : Option (AV × AS) := match args with
  | [x0] => S125c call fuel x0 s S125e
  | _ => none
theorem S125_sim (call : Nat → List AV → M AV) (fuel : Nat) : Sim (R := AV × AS) call fuel mi125 mo125 A125.code (S125c call fuel) := by
  refine sim_seq (sim_reg (fun x0 _ _ _ => by kernel_rfl)) (sim_seq (sim_seq (sim_reg (fun ⟨x0, x2, x3, x4, x15, x20, x58⟩ _ _ _ => by kernel_rfl)) (sim_cond (fun ⟨x0, x2, x3, x4, x15, x20, x58⟩ => by kernel_rfl) (sim_seq (sim_seq (sim_reg (fun ⟨x0, x2, x3, x4, x15, x20, x58⟩ _ _ _ => by kernel_rfl)) (sim_cond (fun ⟨x0, x2, x3, x4, x15, x20, x58⟩ => by kernel_rfl) (sim_seq (sim_reg (fun ⟨x0, x2, x3, x4, x15, x20, x58⟩ _ _ _ => by kernel_rfl)) (sim_ret)) (sim_skip))) (sim_seq (sim_reg (fun ⟨x0, x2, x3, x4, x15, x20, x58⟩ _ _ _ => by kernel_rfl)) (sim_seq (sim_reg (fun ⟨x0, x2, x3, x4, x15, x20, x58⟩ _ _ _ => by kernel_rfl)) (sim_seq (sim_reg (fun ⟨x0, x2, x3, x4, x15, x20, x58⟩ _ _ _ => by kernel_rfl)) (sim_seq (sim_reg (fun ⟨x0, x2, x3, x4, x15, x20, x58⟩ _ _ _ => by kernel_rfl)) (sim_seq (sim_reg (fun ⟨x0, x2, x3, x4, x15, x20, x58⟩ _ _ _ => by kernel_rfl)) (sim_ret))))))) (sim_skip))) (sim_seq (sim_reg (fun ⟨x0, x2, x3, x4, x15, x20, x58⟩ _ _ _ => by kernel_rfl)) (sim_seq (sim_seq (sim_reg (fun ⟨x0, x2, x3, x4, x15, x20, x58⟩ _ _ _ => by kernel_rfl)) (sim_cond (fun ⟨x0, x2, x3, x4, x15, x20, x58⟩ => by kernel_rfl) (sim_seq (sim_reg (fun ⟨x0, x2, x3, x4, x15, x20, x58⟩ _ _ _ => by kernel_rfl)) (sim_seq (sim_reg (fun ⟨x0, x2, x3, x4, x15, x20, x58⟩ _ _ _ => by kernel_rfl)) (sim_seq (sim_reg (fun ⟨x0, x2, x3, x4, x15, x20, x58⟩ _ _ _ => by kernel_rfl)) (sim_ret)))) (sim_skip))) (sim_reg (fun ⟨x0, x2, x3, x4, x15, x20, x58⟩ _ _ _ => by kernel_rfl)))))
theorem S125_ok (call : Nat → List AV → M AV) (fuel : Nat) (args : List AV) (s : AS) : afn call fuel A125 args s = S125 call fuel args s := by
  rcases args with _ | ⟨x0, _ | ⟨x1, r⟩⟩
  · kernel_rfl
  · exact (afn_sim (S125_sim call fuel) (v := x0) (e2 := S125e) (by kernel_rfl) (by kernel_rfl) (fun e w s => by cases w; cases e <;> kernel_rfl)).trans (by kernel_rfl)
  · kernel_rfl
end Go.Proofs.Ytgcciohenncplaa.Ai
