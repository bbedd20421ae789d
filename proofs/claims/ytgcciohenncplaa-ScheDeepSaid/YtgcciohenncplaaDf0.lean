/- Functions told without frames, and that they answer as the code does. -/
import Derived.Test.YtgcciohenncplaaAi26
set_option linter.all false
namespace Go.Proofs.Ytgcciohenncplaa.Ai
def nq : List Nat := [28, 35, 50, 56, 58, 59, 60, 61, 66, 69, 71, 72, 74, 75, 80, 90, 91, 92, 101, 106, 110, 111, 113, 114, 116, 121, 125, 146]
def qf (f : Nat) : Bool := !(nq.contains f)
def A3 : AFn := { nargs := 2, ntmps := 75, res := [.tmp 4], code := .seq (.ops [⟨0, (some 4), none, .p (.mv (.const (.bool false))), []⟩] 1 [0, 1]) (.seq (.ops [⟨0, (some 14), none, .p (.mv (.tmp 0)), []⟩, ⟨1, (some 15), none, .p (.bin .and (.tmp 14) (.const (.int .i64 31))), []⟩, ⟨2, (some 0), none, .p (.mv (.tmp 15)), []⟩] 3 [0, 1]) (.seq (.ops [⟨0, (some 16), none, .k { z := [.str []], len := 4, parts := [(0, .const (.str [114])), (1, .const (.str [114, 45, 62, 115])), (2, .const (.str [114, 32, 43, 32, 115])), (3, .const (.str [114, 32, 38, 32, 115, 32, 45, 32, 114]))] }, []⟩, ⟨1, (some 17), none, .p (.mv (.tmp 1)), []⟩, ⟨2, (some 18), none, .p (.bin .and (.tmp 17) (.const (.int .i64 3))), []⟩, ⟨3, (some 19), none, .p (.idx 1 (.tmp 16) (.tmp 18)), []⟩, ⟨4, (some 20), none, .r (.load false 1 (.tmp 19)), []⟩, ⟨5, (some 5), none, .p (.mv (.tmp 20)), []⟩] 6 [0, 5]) (.seq (.ops [⟨0, (some 21), none, .p (.mv (.tmp 5)), []⟩, ⟨1, (some 6), none, .p (.mv (.tmp 21)), []⟩] 2 [0, 5, 6]) (.seq (.seq (.ops [⟨0, (some 7), none, .p (.mv (.const (.int .i64 0))), []⟩] 1 [0, 5, 6, 7]) (.block 0 (.loop (.seq (.seq (.ops [⟨0, (some 22), none, .p (.mv (.tmp 7)), []⟩, ⟨1, (some 23), none, .p (.mv (.tmp 0)), []⟩, ⟨2, (some 24), none, .p (.bin .lss (.tmp 22) (.tmp 23)), []⟩] 3 [0, 5, 6, 7, 24]) (.cond (.tmp 24) (.skip) (.exit 0))) (.seq (.block 1 (.ops [⟨0, (some 27), none, .p (.mv (.tmp 6)), []⟩, ⟨1, (some 28), none, .p (.bin .add (.const (.str [40])) (.tmp 27)), []⟩, ⟨2, (some 29), none, .p (.bin .add (.tmp 28) (.const (.str [41]))), []⟩, ⟨3, (some 6), none, .p (.mv (.tmp 29)), []⟩] 4 [0, 5, 6, 7])) (.ops [⟨0, (some 25), none, .p (.mv (.tmp 7)), []⟩, ⟨1, (some 26), none, .p (.bin .add (.tmp 25) (.const (.int .i64 1))), []⟩, ⟨2, (some 7), none, .p (.mv (.tmp 26)), []⟩] 3 [0, 5, 6, 7])))))) (.seq (.ops [⟨0, (some 31), none, .p (.mv (.tmp 6)), []⟩, ⟨1, (some 32), none, .p (.bin .add (.const (.str [116, 121, 112, 101, 32, 97, 32, 123, 32, 112, 32, 61, 32])) (.tmp 31)), []⟩, ⟨2, (some 33), none, .p (.bin .add (.tmp 32) (.const (.str [59, 32, 125]))), []⟩, ⟨3, (some 34), none, .e (.call true 12 [.tmp 33]), []⟩, ⟨4, (some 30), none, .p (.mv (.tmp 34)), []⟩, ⟨5, (some 35), none, .p (.extract (.tmp 30) 0), []⟩, ⟨6, (some 36), none, .p (.extract (.tmp 30) 1), []⟩, ⟨7, (some 37), none, .p (.extract (.tmp 30) 2), []⟩, ⟨8, (some 8), none, .p (.mv (.tmp 35)), []⟩, ⟨9, (some 9), none, .p (.mv (.tmp 36)), []⟩, ⟨10, (some 10), none, .p (.mv (.tmp 37)), []⟩] 11 [0, 5, 8, 9, 10]) (.seq (.ops [⟨0, (some 39), none, .p (.mv (.tmp 5)), []⟩, ⟨1, (some 40), none, .p (.bin .add (.const (.str [116, 121, 112, 101, 32, 97, 32, 123, 32, 112, 32, 61, 32])) (.tmp 39)), []⟩, ⟨2, (some 41), none, .p (.bin .add (.tmp 40) (.const (.str [59, 32, 125]))), []⟩, ⟨3, (some 42), none, .e (.call true 12 [.tmp 41]), []⟩, ⟨4, (some 38), none, .p (.mv (.tmp 42)), []⟩, ⟨5, (some 43), none, .p (.extract (.tmp 38) 0), []⟩, ⟨6, (some 44), none, .p (.extract (.tmp 38) 1), []⟩, ⟨7, (some 45), none, .p (.extract (.tmp 38) 2), []⟩, ⟨8, (some 11), none, .p (.mv (.tmp 43)), []⟩, ⟨9, (some 12), none, .p (.mv (.tmp 44)), []⟩, ⟨10, (some 13), none, .p (.mv (.tmp 45)), []⟩] 11 [0, 8, 9, 10, 11, 13]) (.seq (.seq (.ops [⟨0, (some 46), none, .p (.mv (.tmp 0)), []⟩, ⟨1, (some 47), none, .p (.bin .gtr (.tmp 46) (.const (.int .i64 20))), []⟩] 2 [8, 9, 10, 11, 13, 47]) (.cond (.tmp 47) (.seq (.ops [⟨0, (some 48), none, .p (.mv (.tmp 10)), []⟩, ⟨1, (some 49), none, .p (.bin .eql (.tmp 48) (.const (.int .i64 10))), []⟩, ⟨2, (some 50), none, .p (.mv (.tmp 49)), []⟩, ⟨3, (some 51), (some (50, true)), .p (.mv (.tmp 9)), []⟩, ⟨4, (some 52), (some (50, true)), .p (.bin .eql (.tmp 51) (.const (.int .i64 33))), []⟩, ⟨5, (some 53), none, .p (.pick (.tmp 50) (.tmp 52) (.const (.bool false))), []⟩, ⟨6, (some 54), none, .p (.mv (.tmp 53)), []⟩, ⟨7, (some 55), (some (54, true)), .p (.mv (.tmp 13)), []⟩, ⟨8, (some 56), (some (54, true)), .p (.bin .eql (.tmp 55) (.const (.int .i64 0))), []⟩, ⟨9, (some 57), none, .p (.pick (.tmp 54) (.tmp 56) (.const (.bool false))), []⟩, ⟨10, (some 58), none, .p (.mv (.tmp 57)), []⟩, ⟨11, (some 59), (some (58, true)), .e (.call true 13 []), []⟩, ⟨12, (some 60), none, .p (.pick (.tmp 58) (.tmp 59) (.const (.bool false))), []⟩, ⟨13, (some 4), none, .p (.mv (.tmp 60)), []⟩] 14 [4]) (.ret)) (.skip))) (.seq (.ops [⟨0, (some 61), none, .p (.mv (.tmp 10)), []⟩, ⟨1, (some 62), none, .p (.bin .eql (.tmp 61) (.const (.int .i64 0))), []⟩, ⟨2, (some 63), none, .p (.mv (.tmp 62)), []⟩, ⟨3, (some 64), (some (63, true)), .p (.mv (.tmp 13)), []⟩, ⟨4, (some 65), (some (63, true)), .p (.bin .eql (.tmp 64) (.const (.int .i64 0))), []⟩, ⟨5, (some 66), none, .p (.pick (.tmp 63) (.tmp 65) (.const (.bool false))), []⟩, ⟨6, (some 67), none, .p (.mv (.tmp 66)), []⟩, ⟨7, (some 68), (some (67, true)), .p (.mv (.tmp 8)), []⟩, ⟨8, (some 69), (some (67, true)), .p (.mv (.tmp 11)), []⟩, ⟨9, (some 70), (some (67, true)), .e (.call true 14 [.tmp 68, .tmp 69]), []⟩, ⟨10, (some 71), none, .p (.pick (.tmp 67) (.tmp 70) (.const (.bool false))), []⟩, ⟨11, (some 72), none, .p (.mv (.tmp 71)), []⟩, ⟨12, (some 73), (some (72, true)), .e (.call true 13 []), []⟩, ⟨13, (some 74), none, .p (.pick (.tmp 72) (.tmp 73) (.const (.bool false))), []⟩, ⟨14, (some 4), none, .p (.mv (.tmp 74)), []⟩] 15 [4]) (.ret))))))))) }
def N3 : Notes := { note := fun _ => none, keep := fun | 12 => [4] | 11 => [4] | 10 => [8, 9, 10, 11, 13, 47] | 9 => [0, 8, 9, 10, 11, 13] | 8 => [0, 5, 8, 9, 10] | 6 => [0, 5, 6, 7] | 7 => [0, 5, 6, 7] | 5 => [0, 5, 6, 7, 24] | 4 => [0, 5, 6, 7] | 3 => [0, 5, 6] | 2 => [0, 5] | 1 => [0, 1] | 0 => [0, 1] | _ => [] }
theorem A3_ok : cFn Try.prog qf N3 Try.f3 = some A3 := by kernel_rfl
inductive W3 where
  | mk (x0 x1 x4 x5 x6 x7 x8 x9 x10 x11 x13 x24 x47 : AV)
inductive V3 where
  | mk (x0 x1 : AV)
def mo3 : W3 → Fr := fun ⟨x0, x1, x4, x5, x6, x7, x8, x9, x10, x11, x13, x24, x47⟩ => [x0, x1, .top, .top, x4, x5, x6, x7, x8, x9, x10, x11, .top, x13, .top, .top, .top, .top, .top, .top, .top, .top, .top, .top, x24, .top, .top, .top, .top, .top, .top, .top, .top, .top, .top, .top, .top, .top, .top, .top, .top, .top, .top, .top, .top, .top, .top, x47, .top, .top, .top, .top, .top, .top, .top, .top, .top, .top, .top, .top, .top, .top, .top, .top, .top, .top, .top, .top, .top, .top, .top, .top, .top, .top, .top]
def mi3 : V3 → Fr := fun ⟨x0, x1⟩ => [x0, x1, .tup [], .tup [], .tup [], .tup [], .tup [], .tup [], .tup [], .tup [], .tup [], .tup [], .tup [], .tup [], .tup [], .tup [], .tup [], .tup [], .tup [], .tup [], .tup [], .tup [], .tup [], .tup [], .tup [], .tup [], .tup [], .tup [], .tup [], .tup [], .tup [], .tup [], .tup [], .tup [], .tup [], .tup [], .tup [], .tup [], .tup [], .tup [], .tup [], .tup [], .tup [], .tup [], .tup [], .tup [], .tup [], .tup [], .tup [], .tup [], .tup [], .tup [], .tup [], .tup [], .tup [], .tup [], .tup [], .tup [], .tup [], .tup [], .tup [], .tup [], .tup [], .tup [], .tup [], .tup [], .tup [], .tup [], .tup [], .tup [], .tup [], .tup [], .tup [], .tup [], .tup []]
noncomputable def S3r0 {R : Type} (call : Nat → List AV → M AV) : V3 → Nat → AS → (W3 → AS → Option R) → Option R := @V3.rec (fun _ => Nat → AS → (W3 → AS → Option R) → Option R) fun x0 x1 base s k =>
  k (.mk x0 x1 .top .top .top .top .top .top .top .top .top .top .top) s
noncomputable def S3r1 {R : Type} (call : Nat → List AV → M AV) : W3 → Nat → AS → (W3 → AS → Option R) → Option R := @W3.rec (fun _ => Nat → AS → (W3 → AS → Option R) → Option R) fun x0 x1 x4 x5 x6 x7 x8 x9 x10 x11 x13 x24 x47 base s k =>
  bndP (binQ .and x0 ((.int .i64 31) : AV)) fun y0 =>
  k (.mk y0 x1 .top .top .top .top .top .top .top .top .top .top .top) s
noncomputable def S3r2 {R : Type} (call : Nat → List AV → M AV) : W3 → Nat → AS → (W3 → AS → Option R) → Option R := @W3.rec (fun _ => Nat → AS → (W3 → AS → Option R) → Option R) fun x0 x1 x4 x5 x6 x7 x8 x9 x10 x11 x13 x24 x47 base s k =>
  bndP (rowsA [(.str [])] 4 [(0, ((.str [114]) : AV)), (1, ((.str [114, 45, 62, 115]) : AV)), (2, ((.str [114, 32, 43, 32, 115]) : AV)), (3, ((.str [114, 32, 38, 32, 115, 32, 45, 32, 114]) : AV))]) fun y0 =>
  bndP (binQ .and x1 ((.int .i64 3) : AV)) fun y1 =>
  bndP (idxQ 1 y0 y1) fun y2 =>
  bndP (loadQ false 1 y2 s.h) fun y3 =>
  k (.mk x0 .top .top y3 .top .top .top .top .top .top .top .top .top) s
noncomputable def S3r3 {R : Type} (call : Nat → List AV → M AV) : W3 → Nat → AS → (W3 → AS → Option R) → Option R := @W3.rec (fun _ => Nat → AS → (W3 → AS → Option R) → Option R) fun x0 x1 x4 x5 x6 x7 x8 x9 x10 x11 x13 x24 x47 base s k =>
  k (.mk x0 .top .top x5 x5 .top .top .top .top .top .top .top .top) s
noncomputable def S3r4 {R : Type} (call : Nat → List AV → M AV) : W3 → Nat → AS → (W3 → AS → Option R) → Option R := @W3.rec (fun _ => Nat → AS → (W3 → AS → Option R) → Option R) fun x0 x1 x4 x5 x6 x7 x8 x9 x10 x11 x13 x24 x47 base s k =>
  k (.mk x0 .top .top x5 x6 ((.int .i64 0) : AV) .top .top .top .top .top .top .top) s
noncomputable def S3r5 {R : Type} (call : Nat → List AV → M AV) : W3 → Nat → AS → (W3 → AS → Option R) → Option R := @W3.rec (fun _ => Nat → AS → (W3 → AS → Option R) → Option R) fun x0 x1 x4 x5 x6 x7 x8 x9 x10 x11 x13 x24 x47 base s k =>
  bndP (binQ .lss x7 x0) fun y0 =>
  k (.mk x0 .top .top x5 x6 x7 .top .top .top .top .top y0 .top) s
noncomputable def S3r6 {R : Type} (call : Nat → List AV → M AV) : W3 → Nat → AS → (W3 → AS → Option R) → Option R := @W3.rec (fun _ => Nat → AS → (W3 → AS → Option R) → Option R) fun x0 x1 x4 x5 x6 x7 x8 x9 x10 x11 x13 x24 x47 base s k =>
  bndP (binQ .add ((.str [40]) : AV) x6) fun y0 =>
  bndP (binQ .add y0 ((.str [41]) : AV)) fun y1 =>
  k (.mk x0 .top .top x5 y1 x7 .top .top .top .top .top .top .top) s
noncomputable def S3r7 {R : Type} (call : Nat → List AV → M AV) : W3 → Nat → AS → (W3 → AS → Option R) → Option R := @W3.rec (fun _ => Nat → AS → (W3 → AS → Option R) → Option R) fun x0 x1 x4 x5 x6 x7 x8 x9 x10 x11 x13 x24 x47 base s k =>
  bndP (binQ .add x7 ((.int .i64 1) : AV)) fun y0 =>
  k (.mk x0 .top .top x5 x6 y0 .top .top .top .top .top .top .top) s
noncomputable def S3b8 {R : Type} (call : Nat → List AV → M AV) (fuel : Nat) : SC W3 W3 R := sSeq (sSeq (sReg 3 (S3r5 call)) (sCond (@W3.rec (fun _ => AV) fun _ _ _ _ _ _ _ _ _ _ _ x24 _ => x24) (sSkip) (sExit 0))) (sSeq (sBlock 1 (sReg 4 (S3r6 call))) (sReg 3 (S3r7 call)))
noncomputable def S3r9 {R : Type} (call : Nat → List AV → M AV) : W3 → Nat → AS → (W3 → AS → Option R) → Option R := @W3.rec (fun _ => Nat → AS → (W3 → AS → Option R) → Option R) fun x0 x1 x4 x5 x6 x7 x8 x9 x10 x11 x13 x24 x47 base s k =>
  bndP (binQ .add ((.str [116, 121, 112, 101, 32, 97, 32, 123, 32, 112, 32, 61, 32]) : AV) x6) fun y0 =>
  bndP (binQ .add y0 ((.str [59, 32, 125]) : AV)) fun y1 =>
  bndO (quietQ call 12 [y1] s) fun y2 s =>
  bndP (extrQ y2 0) fun y3 =>
  bndP (extrQ y2 1) fun y4 =>
  bndP (extrQ y2 2) fun y5 =>
  k (.mk x0 .top .top x5 .top .top y3 y4 y5 .top .top .top .top) s
noncomputable def S3r10 {R : Type} (call : Nat → List AV → M AV) : W3 → Nat → AS → (W3 → AS → Option R) → Option R := @W3.rec (fun _ => Nat → AS → (W3 → AS → Option R) → Option R) fun x0 x1 x4 x5 x6 x7 x8 x9 x10 x11 x13 x24 x47 base s k =>
  bndP (binQ .add ((.str [116, 121, 112, 101, 32, 97, 32, 123, 32, 112, 32, 61, 32]) : AV) x5) fun y0 =>
  bndP (binQ .add y0 ((.str [59, 32, 125]) : AV)) fun y1 =>
  bndO (quietQ call 12 [y1] s) fun y2 s =>
  bndP (extrQ y2 0) fun y3 =>
  bndP (extrQ y2 1) fun y4 =>
  bndP (extrQ y2 2) fun y5 =>
  k (.mk x0 .top .top .top .top .top x8 x9 x10 y3 y5 .top .top) s
noncomputable def S3r11 {R : Type} (call : Nat → List AV → M AV) : W3 → Nat → AS → (W3 → AS → Option R) → Option R := @W3.rec (fun _ => Nat → AS → (W3 → AS → Option R) → Option R) fun x0 x1 x4 x5 x6 x7 x8 x9 x10 x11 x13 x24 x47 base s k =>
  bndP (binQ .gtr x0 ((.int .i64 20) : AV)) fun y0 =>
  k (.mk .top .top .top .top .top .top x8 x9 x10 x11 x13 .top y0) s
noncomputable def S3r12 {R : Type} (call : Nat → List AV → M AV) : W3 → Nat → AS → (W3 → AS → Option R) → Option R := @W3.rec (fun _ => Nat → AS → (W3 → AS → Option R) → Option R) fun x0 x1 x4 x5 x6 x7 x8 x9 x10 x11 x13 x24 x47 base s k =>
  bndP (binQ .eql x10 ((.int .i64 10) : AV)) fun y0 =>
  bndO (gd (wantG y0 true) (fun s => (pureO (some x9) s)) s) fun y1 s =>
  bndO (gd (wantG y0 true) (fun s => (pureO (binQ .eql y1 ((.int .i64 33) : AV)) s)) s) fun y2 s =>
  bndP (pickA y0 y2 ((.bool false) : AV)) fun y3 =>
  bndO (gd (wantG y3 true) (fun s => (pureO (some x13) s)) s) fun y4 s =>
  bndO (gd (wantG y3 true) (fun s => (pureO (binQ .eql y4 ((.int .i64 0) : AV)) s)) s) fun y5 s =>
  bndP (pickA y3 y5 ((.bool false) : AV)) fun y6 =>
  bndO (gd (wantG y6 true) (fun s => (quietQ call 13 [] s)) s) fun y7 s =>
  bndP (pickA y6 y7 ((.bool false) : AV)) fun y8 =>
  k (.mk .top .top y8 .top .top .top .top .top .top .top .top .top .top) s
noncomputable def S3r13 {R : Type} (call : Nat → List AV → M AV) : W3 → Nat → AS → (W3 → AS → Option R) → Option R := @W3.rec (fun _ => Nat → AS → (W3 → AS → Option R) → Option R) fun x0 x1 x4 x5 x6 x7 x8 x9 x10 x11 x13 x24 x47 base s k =>
  bndP (binQ .eql x10 ((.int .i64 0) : AV)) fun y0 =>
  bndO (gd (wantG y0 true) (fun s => (pureO (some x13) s)) s) fun y1 s =>
  bndO (gd (wantG y0 true) (fun s => (pureO (binQ .eql y1 ((.int .i64 0) : AV)) s)) s) fun y2 s =>
  bndP (pickA y0 y2 ((.bool false) : AV)) fun y3 =>
  bndO (gd (wantG y3 true) (fun s => (pureO (some x8) s)) s) fun y4 s =>
  bndO (gd (wantG y3 true) (fun s => (pureO (some x11) s)) s) fun y5 s =>
  bndO (gd (wantG y3 true) (fun s => (quietQ call 14 [y4, y5] s)) s) fun y6 s =>
  bndP (pickA y3 y6 ((.bool false) : AV)) fun y7 =>
  bndO (gd (wantG y7 true) (fun s => (quietQ call 13 [] s)) s) fun y8 s =>
  bndP (pickA y7 y8 ((.bool false) : AV)) fun y9 =>
  k (.mk .top .top y9 .top .top .top .top .top .top .top .top .top .top) s
noncomputable def S3c {R : Type} (call : Nat → List AV → M AV) (fuel : Nat) : SC V3 W3 R := sSeq (sReg 1 (S3r0 call)) (sSeq (sReg 3 (S3r1 call)) (sSeq (sReg 6 (S3r2 call)) (sSeq (sReg 2 (S3r3 call)) (sSeq (sSeq (sReg 1 (S3r4 call)) (sBlock 0 (sLoop fuel (S3b8 call fuel)))) (sSeq (sReg 11 (S3r9 call)) (sSeq (sReg 11 (S3r10 call)) (sSeq (sSeq (sReg 2 (S3r11 call)) (sCond (@W3.rec (fun _ => AV) fun _ _ _ _ _ _ _ _ _ _ _ _ x47 => x47) (sSeq (sReg 14 (S3r12 call)) (sRet)) (sSkip))) (sSeq (sReg 15 (S3r13 call)) (sRet)))))))))
noncomputable def S3e : Ex → W3 → AS → Option (AV × AS) := fun e w s => (@W3.rec (fun _ => Option (AV × AS)) fun _ _ x4 _ _ _ _ _ _ _ _ _ _ => @Ex.rec (fun _ => Option (AV × AS)) (some (x4, s)) (fun _ => none) (some (x4, s)) e) w
noncomputable def S3 (call : Nat → List AV → M AV) (fuel : Nat) (args : List AV) (s : AS) : Option (AV × AS) := match args with
  | [x0, x1] => S3c call fuel (.mk x0 x1) s S3e
  | _ => none
theorem S3_sim (call : Nat → List AV → M AV) (fuel : Nat) : Sim (R := AV × AS) call fuel mi3 mo3 A3.code (S3c call fuel) := by
  refine sim_seq (sim_reg (fun ⟨x0, x1⟩ _ _ _ => by kernel_rfl)) (sim_seq (sim_reg (fun ⟨x0, x1, x4, x5, x6, x7, x8, x9, x10, x11, x13, x24, x47⟩ _ _ _ => by kernel_rfl)) (sim_seq (sim_reg (fun ⟨x0, x1, x4, x5, x6, x7, x8, x9, x10, x11, x13, x24, x47⟩ _ _ _ => by kernel_rfl)) (sim_seq (sim_reg (fun ⟨x0, x1, x4, x5, x6, x7, x8, x9, x10, x11, x13, x24, x47⟩ _ _ _ => by kernel_rfl)) (sim_seq (sim_seq (sim_reg (fun ⟨x0, x1, x4, x5, x6, x7, x8, x9, x10, x11, x13, x24, x47⟩ _ _ _ => by kernel_rfl)) (sim_block (sim_loop (sim_seq (sim_seq (sim_reg (fun ⟨x0, x1, x4, x5, x6, x7, x8, x9, x10, x11, x13, x24, x47⟩ _ _ _ => by kernel_rfl)) (sim_cond (fun ⟨x0, x1, x4, x5, x6, x7, x8, x9, x10, x11, x13, x24, x47⟩ => by kernel_rfl) (sim_skip) (sim_exit))) (sim_seq (sim_block (sim_reg (fun ⟨x0, x1, x4, x5, x6, x7, x8, x9, x10, x11, x13, x24, x47⟩ _ _ _ => by kernel_rfl))) (sim_reg (fun ⟨x0, x1, x4, x5, x6, x7, x8, x9, x10, x11, x13, x24, x47⟩ _ _ _ => by kernel_rfl))))))) (sim_seq (sim_reg (fun ⟨x0, x1, x4, x5, x6, x7, x8, x9, x10, x11, x13, x24, x47⟩ _ _ _ => by kernel_rfl)) (sim_seq (sim_reg (fun ⟨x0, x1, x4, x5, x6, x7, x8, x9, x10, x11, x13, x24, x47⟩ _ _ _ => by kernel_rfl)) (sim_seq (sim_seq (sim_reg (fun ⟨x0, x1, x4, x5, x6, x7, x8, x9, x10, x11, x13, x24, x47⟩ _ _ _ => by kernel_rfl)) (sim_cond (fun ⟨x0, x1, x4, x5, x6, x7, x8, x9, x10, x11, x13, x24, x47⟩ => by kernel_rfl) (sim_seq (sim_reg (fun ⟨x0, x1, x4, x5, x6, x7, x8, x9, x10, x11, x13, x24, x47⟩ _ _ _ => by kernel_rfl)) (sim_ret)) (sim_skip))) (sim_seq (sim_reg (fun ⟨x0, x1, x4, x5, x6, x7, x8, x9, x10, x11, x13, x24, x47⟩ _ _ _ => by kernel_rfl)) (sim_ret)))))))))
theorem S3_ok (call : Nat → List AV → M AV) (fuel : Nat) (args : List AV) (s : AS) : afn call fuel A3 args s = S3 call fuel args s := by
  rcases args with _ | ⟨x0, _ | ⟨x1, _ | ⟨x2, r⟩⟩⟩
  · kernel_rfl
  · kernel_rfl
  · exact (afn_sim (S3_sim call fuel) (v := (.mk x0 x1)) (e2 := S3e) (by kernel_rfl) (by kernel_rfl) (fun e w s => by cases w; cases e <;> kernel_rfl)).trans (by kernel_rfl)
  · kernel_rfl
def A12 : AFn := { nargs := 1, ntmps := 55, res := [.tmp 2, .tmp 3, .tmp 4], code := .seq (.ops [⟨0, (some 2), none, .p (.mv (.const (.nils))), []⟩, ⟨1, (some 3), none, .p (.mv (.const (.int .i64 0))), []⟩, ⟨2, (some 4), none, .p (.mv (.const (.int .i64 0))), []⟩] 3 [0]) (.seq (.ops [⟨0, (some 13), none, .p (.mv (.tmp 0)), []⟩, ⟨1, (some 14), none, .e (.call true 27 [.tmp 13]), []⟩, ⟨2, (some 12), none, .p (.mv (.tmp 14)), []⟩, ⟨3, (some 15), none, .p (.extract (.tmp 12) 0), []⟩, ⟨4, (some 16), none, .p (.extract (.tmp 12) 1), []⟩, ⟨5, (some 17), none, .p (.extract (.tmp 12) 2), []⟩, ⟨6, (some 5), none, .p (.mv (.tmp 15)), []⟩, ⟨7, (some 6), none, .p (.mv (.tmp 16)), []⟩, ⟨8, (some 7), none, .p (.mv (.tmp 17)), []⟩] 9 [0, 5, 6, 7]) (.seq (.seq (.ops [⟨0, (some 18), none, .p (.mv (.tmp 7)), []⟩, ⟨1, (some 19), none, .p (.bin .neq (.tmp 18) (.const (.int .i64 0))), []⟩] 2 [0, 5, 6, 7, 19]) (.cond (.tmp 19) (.seq (.ops [⟨0, (some 20), none, .p (.mv (.tmp 6)), []⟩, ⟨1, (some 21), none, .p (.mv (.tmp 7)), []⟩, ⟨2, (some 2), none, .p (.mv (.const (.nils))), []⟩, ⟨3, (some 3), none, .p (.mv (.tmp 20)), []⟩, ⟨4, (some 4), none, .p (.mv (.tmp 21)), []⟩] 5 [2, 3, 4]) (.ret)) (.skip))) (.seq (.ops [⟨0, (some 22), none, .p (.mv (.tmp 5)), []⟩, ⟨1, (some 23), none, .p (.mv (.tmp 0)), []⟩, ⟨2, (some 24), none, .p (.lenS true (.tmp 23)), []⟩, ⟨3, (some 25), none, .p (.build [.nils, .int .i64 0, .int .i64 0, .int .i64 0, .int .i64 0, .nils] [(0, 1, .tmp 22), (1, 1, .tmp 24)]), []⟩, ⟨4, (some 26), none, .l (.box (.tmp 25)), []⟩, ⟨5, (some 8), none, .p (.mv (.tmp 26)), []⟩] 6 [8]) (.seq (.ops [⟨0, (some 9), none, .p (.mv (.const (.nils))), []⟩] 1 [8, 9]) (.seq (.block 0 (.loop (.seq (.seq (.ops [⟨0, (some 27), none, .p (.mv (.tmp 8)), []⟩, ⟨1, (some 28), none, .p (.nilchk (.tmp 27)), []⟩, ⟨2, (some 29), none, .p (.fld 0 (.tmp 28)), []⟩, ⟨3, (some 30), none, .r (.load false 1 (.tmp 29)), []⟩, ⟨4, (some 31), none, .p (.lenS false (.tmp 30)), []⟩, ⟨5, (some 32), none, .p (.bin .gtr (.tmp 31) (.const (.int .i64 0))), []⟩] 6 [8, 9, 32]) (.cond (.tmp 32) (.skip) (.exit 0))) (.block 1 (.seq (.ops [⟨0, (some 34), none, .p (.mv (.tmp 8)), []⟩, ⟨1, (some 35), none, .p (.mv (.tmp 9)), []⟩, ⟨2, (some 36), none, .p (.lenS false (.tmp 35)), []⟩, ⟨3, (some 37), none, .e (.call false 28 [.tmp 34, .tmp 36]), []⟩, ⟨4, (some 33), none, .p (.mv (.tmp 37)), []⟩, ⟨5, (some 38), none, .p (.extract (.tmp 33) 0), []⟩, ⟨6, (some 39), none, .p (.extract (.tmp 33) 1), []⟩, ⟨7, (some 10), none, .l (.alloc [.str [], .nils]), []⟩, ⟨8, none, none, .e (.store (.tmp 10) (.tmp 38) 2), []⟩, ⟨9, (some 11), none, .p (.mv (.tmp 39)), []⟩] 10 [8, 9, 10, 11]) (.seq (.seq (.ops [⟨0, (some 40), none, .p (.mv (.tmp 11)), []⟩, ⟨1, (some 41), none, .p (.notb (.tmp 40)), []⟩] 2 [8, 9, 10, 41]) (.cond (.tmp 41) (.seq (.ops [⟨0, (some 42), none, .p (.mv (.tmp 8)), []⟩, ⟨1, (some 43), none, .p (.nilchk (.tmp 42)), []⟩, ⟨2, (some 44), none, .p (.fld 2 (.tmp 43)), []⟩, ⟨4, (some 46), none, .p (.mv (.tmp 8)), []⟩, ⟨5, (some 47), none, .p (.nilchk (.tmp 46)), []⟩, ⟨6, (some 48), none, .p (.fld 3 (.tmp 47)), []⟩, ⟨8, (some 2), none, .p (.mv (.const (.nils))), []⟩, ⟨3, (some 45), none, .r (.load false 1 (.tmp 44)), []⟩, ⟨9, (some 3), none, .p (.mv (.tmp 45)), []⟩, ⟨7, (some 49), none, .r (.load false 1 (.tmp 48)), []⟩, ⟨10, (some 4), none, .p (.mv (.tmp 49)), []⟩] 11 [2, 3, 4]) (.ret)) (.skip))) (.ops [⟨0, (some 50), none, .p (.mv (.tmp 9)), []⟩, ⟨1, (some 51), none, .r (.load true 2 (.tmp 10)), []⟩, ⟨2, (some 52), none, .k { z := [.str [], .nils], len := 1, parts := [(0, .tmp 51)] }, []⟩, ⟨3, (some 53), none, .e (.append 2 40 (.tmp 50) (.tmp 52)), []⟩, ⟨4, (some 9), none, .p (.mv (.tmp 53)), []⟩] 5 [8, 9]))))))) (.seq (.ops [⟨0, (some 54), none, .p (.mv (.tmp 9)), []⟩, ⟨1, (some 2), none, .p (.mv (.tmp 54)), []⟩, ⟨2, (some 3), none, .p (.mv (.const (.int .i64 0))), []⟩, ⟨3, (some 4), none, .p (.mv (.const (.int .i64 0))), []⟩] 4 [2, 3, 4]) (.ret))))))) }
def N12 : Notes := { note := fun | 9 => some ⟨[0, 1, 2, 4, 5, 6, 8, 3, 9, 7, 10], [0, 1, 3, 7, 0, 16, 48, 112, 0, 271, 1023], [[], [], [], [], [], [], [], [], [], [], []]⟩ | _ => none, keep := fun | 11 => [2, 3, 4] | 10 => [8, 9] | 9 => [2, 3, 4] | 8 => [8, 9, 10, 41] | 7 => [8, 9, 10, 11] | 6 => [8, 9, 32] | 5 => [8, 9] | 4 => [8] | 3 => [2, 3, 4] | 2 => [0, 5, 6, 7, 19] | 1 => [0, 5, 6, 7] | 0 => [0] | _ => [] }
theorem A12_ok : cFn Try.prog qf N12 Try.f12 = some A12 := by kernel_rfl
inductive W12 where
  | mk (x0 x2 x3 x4 x5 x6 x7 x8 x9 x10 x11 x19 x32 x41 : AV)
abbrev V12 := AV
def mo12 : W12 → Fr := fun ⟨x0, x2, x3, x4, x5, x6, x7, x8, x9, x10, x11, x19, x32, x41⟩ => [x0, .top, x2, x3, x4, x5, x6, x7, x8, x9, x10, x11, .top, .top, .top, .top, .top, .top, .top, x19, .top, .top, .top, .top, .top, .top, .top, .top, .top, .top, .top, .top, x32, .top, .top, .top, .top, .top, .top, .top, .top, x41, .top, .top, .top, .top, .top, .top, .top, .top, .top, .top, .top, .top, .top]
def mi12 : V12 → Fr := fun x0 => [x0, .tup [], .tup [], .tup [], .tup [], .tup [], .tup [], .tup [], .tup [], .tup [], .tup [], .tup [], .tup [], .tup [], .tup [], .tup [], .tup [], .tup [], .tup [], .tup [], .tup [], .tup [], .tup [], .tup [], .tup [], .tup [], .tup [], .tup [], .tup [], .tup [], .tup [], .tup [], .tup [], .tup [], .tup [], .tup [], .tup [], .tup [], .tup [], .tup [], .tup [], .tup [], .tup [], .tup [], .tup [], .tup [], .tup [], .tup [], .tup [], .tup [], .tup [], .tup [], .tup [], .tup [], .tup []]
noncomputable def S12r0 {R : Type} (call : Nat → List AV → M AV) : V12 → Nat → AS → (W12 → AS → Option R) → Option R := fun x0 base s k =>
  k (.mk x0 .top .top .top .top .top .top .top .top .top .top .top .top .top) s
noncomputable def S12r1 {R : Type} (call : Nat → List AV → M AV) : W12 → Nat → AS → (W12 → AS → Option R) → Option R := @W12.rec (fun _ => Nat → AS → (W12 → AS → Option R) → Option R) fun x0 x2 x3 x4 x5 x6 x7 x8 x9 x10 x11 x19 x32 x41 base s k =>
  bndO (quietQ call 27 [x0] s) fun y0 s =>
  bndP (extrQ y0 0) fun y1 =>
  bndP (extrQ y0 1) fun y2 =>
  bndP (extrQ y0 2) fun y3 =>
  k (.mk x0 .top .top .top y1 y2 y3 .top .top .top .top .top .top .top) s
noncomputable def S12r2 {R : Type} (call : Nat → List AV → M AV) : W12 → Nat → AS → (W12 → AS → Option R) → Option R := @W12.rec (fun _ => Nat → AS → (W12 → AS → Option R) → Option R) fun x0 x2 x3 x4 x5 x6 x7 x8 x9 x10 x11 x19 x32 x41 base s k =>
  bndP (binQ .neq x7 ((.int .i64 0) : AV)) fun y0 =>
  k (.mk x0 .top .top .top x5 x6 x7 .top .top .top .top y0 .top .top) s
noncomputable def S12r3 {R : Type} (call : Nat → List AV → M AV) : W12 → Nat → AS → (W12 → AS → Option R) → Option R := @W12.rec (fun _ => Nat → AS → (W12 → AS → Option R) → Option R) fun x0 x2 x3 x4 x5 x6 x7 x8 x9 x10 x11 x19 x32 x41 base s k =>
  k (.mk .top (.nils : AV) x6 x7 .top .top .top .top .top .top .top .top .top .top) s
noncomputable def S12r4 {R : Type} (call : Nat → List AV → M AV) : W12 → Nat → AS → (W12 → AS → Option R) → Option R := @W12.rec (fun _ => Nat → AS → (W12 → AS → Option R) → Option R) fun x0 x2 x3 x4 x5 x6 x7 x8 x9 x10 x11 x19 x32 x41 base s k =>
  bndP (lenAQ true x0) fun y0 =>
  bndP (buildA [.nils, (.int .i64 0), (.int .i64 0), (.int .i64 0), (.int .i64 0), .nils] [(0, 1, x5), (1, 1, y0)]) fun y1 =>
  bndO (newQ (base + 4) (boxB y1 (base + 4)) s) fun y2 s =>
  k (.mk .top .top .top .top .top .top .top y2 .top .top .top .top .top .top) s
noncomputable def S12r5 {R : Type} (call : Nat → List AV → M AV) : W12 → Nat → AS → (W12 → AS → Option R) → Option R := @W12.rec (fun _ => Nat → AS → (W12 → AS → Option R) → Option R) fun x0 x2 x3 x4 x5 x6 x7 x8 x9 x10 x11 x19 x32 x41 base s k =>
  k (.mk .top .top .top .top .top .top .top x8 (.nils : AV) .top .top .top .top .top) s
noncomputable def S12r6 {R : Type} (call : Nat → List AV → M AV) : W12 → Nat → AS → (W12 → AS → Option R) → Option R := @W12.rec (fun _ => Nat → AS → (W12 → AS → Option R) → Option R) fun x0 x2 x3 x4 x5 x6 x7 x8 x9 x10 x11 x19 x32 x41 base s k =>
  bndP (nilchkA x8) fun y0 =>
  bndP (fldA 0 y0) fun y1 =>
  bndP (loadQ false 1 y1 s.h) fun y2 =>
  bndP (lenAQ false y2) fun y3 =>
  bndP (binQ .gtr y3 ((.int .i64 0) : AV)) fun y4 =>
  k (.mk .top .top .top .top .top .top .top x8 x9 .top .top .top y4 .top) s
noncomputable def S12r7 {R : Type} (call : Nat → List AV → M AV) : W12 → Nat → AS → (W12 → AS → Option R) → Option R := @W12.rec (fun _ => Nat → AS → (W12 → AS → Option R) → Option R) fun x0 x2 x3 x4 x5 x6 x7 x8 x9 x10 x11 x19 x32 x41 base s k =>
  bndP (lenAQ false x9) fun y0 =>
  bndO (call 28 [x8, y0] s) fun y1 s =>
  bndP (extrQ y1 0) fun y2 =>
  bndP (extrQ y1 1) fun y3 =>
  bndO (newQ (base + 7) (allocB [(.str []), .nils] (base + 7)) s) fun y4 s =>
  bndO (storeQ y4 y2 2 s) fun _ s =>
  k (.mk .top .top .top .top .top .top .top x8 x9 y4 y3 .top .top .top) s
noncomputable def S12r8 {R : Type} (call : Nat → List AV → M AV) : W12 → Nat → AS → (W12 → AS → Option R) → Option R := @W12.rec (fun _ => Nat → AS → (W12 → AS → Option R) → Option R) fun x0 x2 x3 x4 x5 x6 x7 x8 x9 x10 x11 x19 x32 x41 base s k =>
  bndP (notA x11) fun y0 =>
  k (.mk .top .top .top .top .top .top .top x8 x9 x10 .top .top .top y0) s
noncomputable def S12r9 {R : Type} (call : Nat → List AV → M AV) : W12 → Nat → AS → (W12 → AS → Option R) → Option R := @W12.rec (fun _ => Nat → AS → (W12 → AS → Option R) → Option R) fun x0 x2 x3 x4 x5 x6 x7 x8 x9 x10 x11 x19 x32 x41 base s k =>
  bndP (nilchkA x8) fun y0 =>
  bndP (fldA 2 y0) fun y1 =>
  bndP (nilchkA x8) fun y2 =>
  bndP (fldA 3 y2) fun y3 =>
  bndP (loadQ false 1 y1 s.h) fun y4 =>
  bndP (loadQ false 1 y3 s.h) fun y5 =>
  k (.mk .top (.nils : AV) y4 y5 .top .top .top .top .top .top .top .top .top .top) s
noncomputable def S12r10 {R : Type} (call : Nat → List AV → M AV) : W12 → Nat → AS → (W12 → AS → Option R) → Option R := @W12.rec (fun _ => Nat → AS → (W12 → AS → Option R) → Option R) fun x0 x2 x3 x4 x5 x6 x7 x8 x9 x10 x11 x19 x32 x41 base s k =>
  bndP (loadQ true 2 x10 s.h) fun y0 =>
  bndP (rowsA [(.str []), .nils] 1 [(0, y0)]) fun y1 =>
  bndO (appQ (base + 3) 2 40 x9 y1 s) fun y2 s =>
  k (.mk .top .top .top .top .top .top .top x8 y2 .top .top .top .top .top) s
noncomputable def S12b11 {R : Type} (call : Nat → List AV → M AV) (fuel : Nat) : SC W12 W12 R := sSeq (sSeq (sReg 6 (S12r6 call)) (sCond (@W12.rec (fun _ => AV) fun _ _ _ _ _ _ _ _ _ _ _ _ x32 _ => x32) (sSkip) (sExit 0))) (sBlock 1 (sSeq (sReg 10 (S12r7 call)) (sSeq (sSeq (sReg 2 (S12r8 call)) (sCond (@W12.rec (fun _ => AV) fun _ _ _ _ _ _ _ _ _ _ _ _ _ x41 => x41) (sSeq (sReg 11 (S12r9 call)) (sRet)) (sSkip))) (sReg 5 (S12r10 call)))))
noncomputable def S12r12 {R : Type} (call : Nat → List AV → M AV) : W12 → Nat → AS → (W12 → AS → Option R) → Option R := @W12.rec (fun _ => Nat → AS → (W12 → AS → Option R) → Option R) fun x0 x2 x3 x4 x5 x6 x7 x8 x9 x10 x11 x19 x32 x41 base s k =>
  k (.mk .top x9 ((.int .i64 0) : AV) ((.int .i64 0) : AV) .top .top .top .top .top .top .top .top .top .top) s
noncomputable def S12c {R : Type} (call : Nat → List AV → M AV) (fuel : Nat) : SC V12 W12 R := sSeq (sReg 3 (S12r0 call)) (sSeq (sReg 9 (S12r1 call)) (sSeq (sSeq (sReg 2 (S12r2 call)) (sCond (@W12.rec (fun _ => AV) fun _ _ _ _ _ _ _ _ _ _ _ x19 _ _ => x19) (sSeq (sReg 5 (S12r3 call)) (sRet)) (sSkip))) (sSeq (sReg 6 (S12r4 call)) (sSeq (sReg 1 (S12r5 call)) (sSeq (sBlock 0 (sLoop fuel (S12b11 call fuel))) (sSeq (sReg 4 (S12r12 call)) (sRet)))))))
noncomputable def S12e : Ex → W12 → AS → Option (AV × AS) := fun e w s => (@W12.rec (fun _ => Option (AV × AS)) fun _ x2 x3 x4 _ _ _ _ _ _ _ _ _ _ => @Ex.rec (fun _ => Option (AV × AS)) (some (.tup [x2, x3, x4], s)) (fun _ => none) (some (.tup [x2, x3, x4], s)) e) w
noncomputable def S12 (call : Nat → List AV → M AV) (fuel : Nat) (args : List AV) (s : AS) : Option (AV × AS) := match args with
  | [x0] => S12c call fuel x0 s S12e
  | _ => none
theorem S12_sim (call : Nat → List AV → M AV) (fuel : Nat) : Sim (R := AV × AS) call fuel mi12 mo12 A12.code (S12c call fuel) := by
  refine sim_seq (sim_reg (fun x0 _ _ _ => by kernel_rfl)) (sim_seq (sim_reg (fun ⟨x0, x2, x3, x4, x5, x6, x7, x8, x9, x10, x11, x19, x32, x41⟩ _ _ _ => by kernel_rfl)) (sim_seq (sim_seq (sim_reg (fun ⟨x0, x2, x3, x4, x5, x6, x7, x8, x9, x10, x11, x19, x32, x41⟩ _ _ _ => by kernel_rfl)) (sim_cond (fun ⟨x0, x2, x3, x4, x5, x6, x7, x8, x9, x10, x11, x19, x32, x41⟩ => by kernel_rfl) (sim_seq (sim_reg (fun ⟨x0, x2, x3, x4, x5, x6, x7, x8, x9, x10, x11, x19, x32, x41⟩ _ _ _ => by kernel_rfl)) (sim_ret)) (sim_skip))) (sim_seq (sim_reg (fun ⟨x0, x2, x3, x4, x5, x6, x7, x8, x9, x10, x11, x19, x32, x41⟩ _ _ _ => by kernel_rfl)) (sim_seq (sim_reg (fun ⟨x0, x2, x3, x4, x5, x6, x7, x8, x9, x10, x11, x19, x32, x41⟩ _ _ _ => by kernel_rfl)) (sim_seq (sim_block (sim_loop (sim_seq (sim_seq (sim_reg (fun ⟨x0, x2, x3, x4, x5, x6, x7, x8, x9, x10, x11, x19, x32, x41⟩ _ _ _ => by kernel_rfl)) (sim_cond (fun ⟨x0, x2, x3, x4, x5, x6, x7, x8, x9, x10, x11, x19, x32, x41⟩ => by kernel_rfl) (sim_skip) (sim_exit))) (sim_block (sim_seq (sim_reg (fun ⟨x0, x2, x3, x4, x5, x6, x7, x8, x9, x10, x11, x19, x32, x41⟩ _ _ _ => by kernel_rfl)) (sim_seq (sim_seq (sim_reg (fun ⟨x0, x2, x3, x4, x5, x6, x7, x8, x9, x10, x11, x19, x32, x41⟩ _ _ _ => by kernel_rfl)) (sim_cond (fun ⟨x0, x2, x3, x4, x5, x6, x7, x8, x9, x10, x11, x19, x32, x41⟩ => by kernel_rfl) (sim_seq (sim_reg (fun ⟨x0, x2, x3, x4, x5, x6, x7, x8, x9, x10, x11, x19, x32, x41⟩ _ _ _ => by kernel_rfl)) (sim_ret)) (sim_skip))) (sim_reg (fun ⟨x0, x2, x3, x4, x5, x6, x7, x8, x9, x10, x11, x19, x32, x41⟩ _ _ _ => by kernel_rfl)))))))) (sim_seq (sim_reg (fun ⟨x0, x2, x3, x4, x5, x6, x7, x8, x9, x10, x11, x19, x32, x41⟩ _ _ _ => by kernel_rfl)) (sim_ret)))))))
theorem S12_ok (call : Nat → List AV → M AV) (fuel : Nat) (args : List AV) (s : AS) : afn call fuel A12 args s = S12 call fuel args s := by
  rcases args with _ | ⟨x0, _ | ⟨x1, r⟩⟩
  · kernel_rfl
  · exact (afn_sim (S12_sim call fuel) (v := x0) (e2 := S12e) (by kernel_rfl) (by kernel_rfl) (fun e w s => by cases w; cases e <;> kernel_rfl)).trans (by kernel_rfl)
  · kernel_rfl
def A13 : AFn := { nargs := 0, ntmps := 82, res := [.tmp 0], code := .seq (.ops [⟨0, (some 0), none, .p (.mv (.const (.bool false))), []⟩] 1 []) (.seq (.ops [⟨0, (some 12), none, .e (.call true 12 [.const (.str [116, 121, 112, 101, 32, 117, 32, 116, 121, 112, 101, 32, 97, 32, 123, 32, 114, 58, 32, 117, 32, 124, 32, 97, 35, 114, 59, 32, 115, 32, 61, 32, 114, 32, 43, 32, 114, 45, 62, 115, 32, 38, 32, 40, 114, 32, 45, 32, 115, 41, 59, 32, 125])]), []⟩, ⟨1, (some 11), none, .p (.mv (.tmp 12)), []⟩, ⟨2, (some 13), none, .p (.extract (.tmp 11) 0), []⟩, ⟨3, (some 14), none, .p (.extract (.tmp 11) 1), []⟩, ⟨4, (some 15), none, .p (.extract (.tmp 11) 2), []⟩, ⟨5, (some 1), none, .p (.mv (.tmp 13)), []⟩, ⟨6, (some 2), none, .p (.mv (.tmp 14)), []⟩, ⟨7, (some 3), none, .p (.mv (.tmp 15)), []⟩] 8 [1, 3]) (.seq (.ops [⟨0, (some 17), none, .p (.mv (.tmp 1)), []⟩, ⟨1, (some 18), none, .e (.call true 26 [.tmp 17]), []⟩, ⟨2, (some 16), none, .p (.mv (.tmp 18)), []⟩, ⟨3, (some 19), none, .p (.extract (.tmp 16) 0), []⟩, ⟨4, (some 20), none, .p (.extract (.tmp 16) 1), []⟩, ⟨5, (some 4), none, .p (.mv (.tmp 19)), []⟩, ⟨6, (some 5), none, .p (.mv (.tmp 20)), []⟩] 7 [1, 3, 4, 5]) (.seq (.ops [⟨0, (some 22), none, .e (.call true 12 [.const (.str [116, 121, 112, 101, 32, 97, 32, 123, 32, 114, 32, 125])]), []⟩, ⟨1, (some 21), none, .p (.mv (.tmp 22)), []⟩, ⟨2, (some 23), none, .p (.extract (.tmp 21) 0), []⟩, ⟨3, (some 24), none, .p (.extract (.tmp 21) 1), []⟩, ⟨4, (some 25), none, .p (.extract (.tmp 21) 2), []⟩, ⟨5, (some 6), none, .p (.mv (.tmp 23)), []⟩, ⟨6, (some 7), none, .p (.mv (.tmp 24)), []⟩, ⟨7, (some 8), none, .p (.mv (.tmp 25)), []⟩] 8 [1, 3, 4, 5, 7, 8]) (.seq (.ops [⟨0, (some 27), none, .p (.build [.str [], .nils] [(0, 1, .const (.str [116, 121, 112, 101]))]), []⟩, ⟨1, (some 28), none, .k { z := [.str [], .nils], len := 1, parts := [(0, .tmp 27)] }, []⟩, ⟨2, (some 29), none, .e (.call true 26 [.tmp 28]), []⟩, ⟨3, (some 26), none, .p (.mv (.tmp 29)), []⟩, ⟨4, (some 30), none, .p (.extract (.tmp 26) 0), []⟩, ⟨5, (some 31), none, .p (.extract (.tmp 26) 1), []⟩, ⟨6, (some 9), none, .p (.mv (.tmp 30)), []⟩, ⟨7, (some 10), none, .p (.mv (.tmp 31)), []⟩] 8 [1, 3, 4, 5, 7, 8, 10]) (.seq (.ops [⟨0, (some 32), none, .p (.mv (.tmp 3)), []⟩, ⟨1, (some 33), none, .p (.bin .eql (.tmp 32) (.const (.int .i64 0))), []⟩, ⟨2, (some 34), none, .p (.mv (.tmp 33)), []⟩, ⟨3, (some 35), (some (34, true)), .p (.mv (.tmp 1)), []⟩, ⟨4, (some 36), (some (34, true)), .p (.lenS false (.tmp 35)), []⟩, ⟨5, (some 37), (some (34, true)), .p (.bin .eql (.tmp 36) (.const (.int .i64 2))), []⟩, ⟨6, (some 38), none, .p (.pick (.tmp 34) (.tmp 37) (.const (.bool false))), []⟩, ⟨7, (some 39), none, .p (.mv (.tmp 38)), []⟩, ⟨8, (some 40), (some (39, true)), .p (.mv (.tmp 1)), []⟩, ⟨9, (some 41), (some (39, true)), .p (.idx 2 (.tmp 40) (.const (.int .i64 1))), []⟩, ⟨10, (some 42), (some (39, true)), .p (.fld 1 (.tmp 41)), []⟩, ⟨11, (some 43), (some (39, true)), .r (.load false 1 (.tmp 42)), []⟩, ⟨12, (some 44), (some (39, true)), .p (.lenS false (.tmp 43)), []⟩, ⟨13, (some 45), (some (39, true)), .p (.bin .eql (.tmp 44) (.const (.int .i64 2))), []⟩, ⟨14, (some 46), none, .p (.pick (.tmp 39) (.tmp 45) (.const (.bool false))), []⟩, ⟨15, (some 47), none, .p (.mv (.tmp 46)), []⟩, ⟨16, (some 48), (some (47, true)), .p (.mv (.tmp 1)), []⟩, ⟨17, (some 49), (some (47, true)), .p (.idx 2 (.tmp 48) (.const (.int .i64 1))), []⟩, ⟨18, (some 50), (some (47, true)), .p (.fld 1 (.tmp 49)), []⟩, ⟨19, (some 51), (some (47, true)), .r (.load false 1 (.tmp 50)), []⟩, ⟨20, (some 52), (some (47, true)), .p (.idx 3 (.tmp 51) (.const (.int .i64 1))), []⟩, ⟨21, (some 53), (some (47, true)), .p (.fld 2 (.tmp 52)), []⟩, ⟨22, (some 54), (some (47, true)), .r (.load false 1 (.tmp 53)), []⟩, ⟨23, (some 55), (some (47, true)), .p (.lenS false (.tmp 54)), []⟩, ⟨24, (some 56), (some (47, true)), .p (.bin .eql (.tmp 55) (.const (.int .i64 7))), []⟩, ⟨25, (some 57), none, .p (.pick (.tmp 47) (.tmp 56) (.const (.bool false))), []⟩, ⟨26, (some 58), none, .p (.mv (.tmp 57)), []⟩, ⟨27, (some 59), (some (58, true)), .p (.mv (.tmp 5)), []⟩, ⟨28, (some 60), none, .p (.pick (.tmp 58) (.tmp 59) (.const (.bool false))), []⟩, ⟨29, (some 61), none, .p (.mv (.tmp 60)), []⟩, ⟨30, (some 62), (some (61, true)), .p (.mv (.tmp 4)), []⟩, ⟨31, (some 63), (some (61, true)), .p (.bin .eql (.tmp 62) (.const (.str [116, 121, 112, 101, 32, 117, 10, 116, 121, 112, 101, 32, 97, 32, 123, 10, 9, 114, 58, 32, 117, 32, 124, 32, 97, 35, 114, 59, 10, 9, 115, 32, 61, 32, 114, 32, 43, 32, 114, 45, 62, 115, 32, 38, 32, 40, 114, 32, 45, 32, 115, 41, 59, 10, 125, 10]))), []⟩, ⟨32, (some 64), none, .p (.pick (.tmp 61) (.tmp 63) (.const (.bool false))), []⟩, ⟨33, (some 65), none, .p (.mv (.tmp 64)), []⟩, ⟨34, (some 66), (some (65, true)), .p (.mv (.tmp 7)), []⟩, ⟨35, (some 67), (some (65, true)), .p (.bin .eql (.tmp 66) (.const (.int .i64 11))), []⟩, ⟨36, (some 68), none, .p (.pick (.tmp 65) (.tmp 67) (.const (.bool false))), []⟩, ⟨37, (some 69), none, .p (.mv (.tmp 68)), []⟩, ⟨38, (some 70), (some (69, true)), .p (.mv (.tmp 8)), []⟩, ⟨39, (some 71), (some (69, true)), .p (.bin .eql (.tmp 70) (.const (.int .i64 9))), []⟩, ⟨40, (some 72), none, .p (.pick (.tmp 69) (.tmp 71) (.const (.bool false))), []⟩, ⟨41, (some 73), none, .p (.mv (.tmp 72)), []⟩, ⟨42, (some 74), (some (73, true)), .p (.mv (.tmp 10)), []⟩, ⟨43, (some 75), (some (73, true)), .p (.notb (.tmp 74)), []⟩, ⟨44, (some 76), none, .p (.pick (.tmp 73) (.tmp 75) (.const (.bool false))), []⟩, ⟨45, (some 77), none, .p (.mv (.tmp 76)), []⟩, ⟨46, (some 78), (some (77, true)), .p (.mv (.tmp 1)), []⟩, ⟨47, (some 79), (some (77, true)), .p (.mv (.tmp 1)), []⟩, ⟨48, (some 80), (some (77, true)), .e (.call true 29 [.tmp 78, .tmp 79]), []⟩, ⟨49, (some 81), none, .p (.pick (.tmp 77) (.tmp 80) (.const (.bool false))), []⟩, ⟨50, (some 0), none, .p (.mv (.tmp 81)), []⟩] 51 [0]) (.ret)))))) }
def N13 : Notes := { note := fun _ => none, keep := fun | 5 => [0] | 4 => [1, 3, 4, 5, 7, 8, 10] | 3 => [1, 3, 4, 5, 7, 8] | 2 => [1, 3, 4, 5] | 1 => [1, 3] | 0 => [] | _ => [] }
theorem A13_ok : cFn Try.prog qf N13 Try.f13 = some A13 := by kernel_rfl
inductive W13 where
  | mk (x0 x1 x3 x4 x5 x7 x8 x10 : AV)
abbrev V13 := Unit
def mo13 : W13 → Fr := fun ⟨x0, x1, x3, x4, x5, x7, x8, x10⟩ => [x0, x1, .top, x3, x4, x5, .top, x7, x8, .top, x10, .top, .top, .top, .top, .top, .top, .top, .top, .top, .top, .top, .top, .top, .top, .top, .top, .top, .top, .top, .top, .top, .top, .top, .top, .top, .top, .top, .top, .top, .top, .top, .top, .top, .top, .top, .top, .top, .top, .top, .top, .top, .top, .top, .top, .top, .top, .top, .top, .top, .top, .top, .top, .top, .top, .top, .top, .top, .top, .top, .top, .top, .top, .top, .top, .top, .top, .top, .top, .top, .top, .top]
def mi13 : V13 → Fr := fun _ => [.tup [], .tup [], .tup [], .tup [], .tup [], .tup [], .tup [], .tup [], .tup [], .tup [], .tup [], .tup [], .tup [], .tup [], .tup [], .tup [], .tup [], .tup [], .tup [], .tup [], .tup [], .tup [], .tup [], .tup [], .tup [], .tup [], .tup [], .tup [], .tup [], .tup [], .tup [], .tup [], .tup [], .tup [], .tup [], .tup [], .tup [], .tup [], .tup [], .tup [], .tup [], .tup [], .tup [], .tup [], .tup [], .tup [], .tup [], .tup [], .tup [], .tup [], .tup [], .tup [], .tup [], .tup [], .tup [], .tup [], .tup [], .tup [], .tup [], .tup [], .tup [], .tup [], .tup [], .tup [], .tup [], .tup [], .tup [], .tup [], .tup [], .tup [], .tup [], .tup [], .tup [], .tup [], .tup [], .tup [], .tup [], .tup [], .tup [], .tup [], .tup [], .tup []]
noncomputable def S13r0 {R : Type} (call : Nat → List AV → M AV) : V13 → Nat → AS → (W13 → AS → Option R) → Option R := fun _ base s k =>
  k (.mk .top .top .top .top .top .top .top .top) s
noncomputable def S13r1 {R : Type} (call : Nat → List AV → M AV) : W13 → Nat → AS → (W13 → AS → Option R) → Option R := @W13.rec (fun _ => Nat → AS → (W13 → AS → Option R) → Option R) fun x0 x1 x3 x4 x5 x7 x8 x10 base s k =>
  bndO (quietQ call 12 [((.str [116, 121, 112, 101, 32, 117, 32, 116, 121, 112, 101, 32, 97, 32, 123, 32, 114, 58, 32, 117, 32, 124, 32, 97, 35, 114, 59, 32, 115, 32, 61, 32, 114, 32, 43, 32, 114, 45, 62, 115, 32, 38, 32, 40, 114, 32, 45, 32, 115, 41, 59, 32, 125]) : AV)] s) fun y0 s =>
  bndP (extrQ y0 0) fun y1 =>
  bndP (extrQ y0 1) fun y2 =>
  bndP (extrQ y0 2) fun y3 =>
  k (.mk .top y1 y3 .top .top .top .top .top) s
noncomputable def S13r2 {R : Type} (call : Nat → List AV → M AV) : W13 → Nat → AS → (W13 → AS → Option R) → Option R := @W13.rec (fun _ => Nat → AS → (W13 → AS → Option R) → Option R) fun x0 x1 x3 x4 x5 x7 x8 x10 base s k =>
  bndO (quietQ call 26 [x1] s) fun y0 s =>
  bndP (extrQ y0 0) fun y1 =>
  bndP (extrQ y0 1) fun y2 =>
  k (.mk .top x1 x3 y1 y2 .top .top .top) s
noncomputable def S13r3 {R : Type} (call : Nat → List AV → M AV) : W13 → Nat → AS → (W13 → AS → Option R) → Option R := @W13.rec (fun _ => Nat → AS → (W13 → AS → Option R) → Option R) fun x0 x1 x3 x4 x5 x7 x8 x10 base s k =>
  bndO (quietQ call 12 [((.str [116, 121, 112, 101, 32, 97, 32, 123, 32, 114, 32, 125]) : AV)] s) fun y0 s =>
  bndP (extrQ y0 0) fun y1 =>
  bndP (extrQ y0 1) fun y2 =>
  bndP (extrQ y0 2) fun y3 =>
  k (.mk .top x1 x3 x4 x5 y2 y3 .top) s
noncomputable def S13r4 {R : Type} (call : Nat → List AV → M AV) : W13 → Nat → AS → (W13 → AS → Option R) → Option R := @W13.rec (fun _ => Nat → AS → (W13 → AS → Option R) → Option R) fun x0 x1 x3 x4 x5 x7 x8 x10 base s k =>
  bndP (buildA [(.str []), .nils] [(0, 1, ((.str [116, 121, 112, 101]) : AV))]) fun y0 =>
  bndP (rowsA [(.str []), .nils] 1 [(0, y0)]) fun y1 =>
  bndO (quietQ call 26 [y1] s) fun y2 s =>
  bndP (extrQ y2 0) fun y3 =>
  bndP (extrQ y2 1) fun y4 =>
  k (.mk .top x1 x3 x4 x5 x7 x8 y4) s
noncomputable def S13r5 {R : Type} (call : Nat → List AV → M AV) : W13 → Nat → AS → (W13 → AS → Option R) → Option R := @W13.rec (fun _ => Nat → AS → (W13 → AS → Option R) → Option R) fun x0 x1 x3 x4 x5 x7 x8 x10 base s k =>
  bndP (binQ .eql x3 ((.int .i64 0) : AV)) fun y0 =>
  bndO (gd (wantG y0 true) (fun s => (pureO (some x1) s)) s) fun y1 s =>
  bndO (gd (wantG y0 true) (fun s => (pureO (lenAQ false y1) s)) s) fun y2 s =>
  bndO (gd (wantG y0 true) (fun s => (pureO (binQ .eql y2 ((.int .i64 2) : AV)) s)) s) fun y3 s =>
  bndP (pickA y0 y3 ((.bool false) : AV)) fun y4 =>
  bndO (gd (wantG y4 true) (fun s => (pureO (some x1) s)) s) fun y5 s =>
  bndO (gd (wantG y4 true) (fun s => (pureO (idxQ 2 y5 ((.int .i64 1) : AV)) s)) s) fun y6 s =>
  bndO (gd (wantG y4 true) (fun s => (pureO (fldA 1 y6) s)) s) fun y7 s =>
  bndO (gd (wantG y4 true) (fun s => (pureO (loadQ false 1 y7 s.h) s)) s) fun y8 s =>
  bndO (gd (wantG y4 true) (fun s => (pureO (lenAQ false y8) s)) s) fun y9 s =>
  bndO (gd (wantG y4 true) (fun s => (pureO (binQ .eql y9 ((.int .i64 2) : AV)) s)) s) fun y10 s =>
  bndP (pickA y4 y10 ((.bool false) : AV)) fun y11 =>
  bndO (gd (wantG y11 true) (fun s => (pureO (some x1) s)) s) fun y12 s =>
  bndO (gd (wantG y11 true) (fun s => (pureO (idxQ 2 y12 ((.int .i64 1) : AV)) s)) s) fun y13 s =>
  bndO (gd (wantG y11 true) (fun s => (pureO (fldA 1 y13) s)) s) fun y14 s =>
  bndO (gd (wantG y11 true) (fun s => (pureO (loadQ false 1 y14 s.h) s)) s) fun y15 s =>
  bndO (gd (wantG y11 true) (fun s => (pureO (idxQ 3 y15 ((.int .i64 1) : AV)) s)) s) fun y16 s =>
  bndO (gd (wantG y11 true) (fun s => (pureO (fldA 2 y16) s)) s) fun y17 s =>
  bndO (gd (wantG y11 true) (fun s => (pureO (loadQ false 1 y17 s.h) s)) s) fun y18 s =>
  bndO (gd (wantG y11 true) (fun s => (pureO (lenAQ false y18) s)) s) fun y19 s =>
  bndO (gd (wantG y11 true) (fun s => (pureO (binQ .eql y19 ((.int .i64 7) : AV)) s)) s) fun y20 s =>
  bndP (pickA y11 y20 ((.bool false) : AV)) fun y21 =>
  bndO (gd (wantG y21 true) (fun s => (pureO (some x5) s)) s) fun y22 s =>
  bndP (pickA y21 y22 ((.bool false) : AV)) fun y23 =>
  bndO (gd (wantG y23 true) (fun s => (pureO (some x4) s)) s) fun y24 s =>
  bndO (gd (wantG y23 true) (fun s => (pureO (binQ .eql y24 ((.str [116, 121, 112, 101, 32, 117, 10, 116, 121, 112, 101, 32, 97, 32, 123, 10, 9, 114, 58, 32, 117, 32, 124, 32, 97, 35, 114, 59, 10, 9, 115, 32, 61, 32, 114, 32, 43, 32, 114, 45, 62, 115, 32, 38, 32, 40, 114, 32, 45, 32, 115, 41, 59, 10, 125, 10]) : AV)) s)) s) fun y25 s =>
  bndP (pickA y23 y25 ((.bool false) : AV)) fun y26 =>
  bndO (gd (wantG y26 true) (fun s => (pureO (some x7) s)) s) fun y27 s =>
  bndO (gd (wantG y26 true) (fun s => (pureO (binQ .eql y27 ((.int .i64 11) : AV)) s)) s) fun y28 s =>
  bndP (pickA y26 y28 ((.bool false) : AV)) fun y29 =>
  bndO (gd (wantG y29 true) (fun s => (pureO (some x8) s)) s) fun y30 s =>
  bndO (gd (wantG y29 true) (fun s => (pureO (binQ .eql y30 ((.int .i64 9) : AV)) s)) s) fun y31 s =>
  bndP (pickA y29 y31 ((.bool false) : AV)) fun y32 =>
  bndO (gd (wantG y32 true) (fun s => (pureO (some x10) s)) s) fun y33 s =>
  bndO (gd (wantG y32 true) (fun s => (pureO (notA y33) s)) s) fun y34 s =>
  bndP (pickA y32 y34 ((.bool false) : AV)) fun y35 =>
  bndO (gd (wantG y35 true) (fun s => (pureO (some x1) s)) s) fun y36 s =>
  bndO (gd (wantG y35 true) (fun s => (pureO (some x1) s)) s) fun y37 s =>
  bndO (gd (wantG y35 true) (fun s => (quietQ call 29 [y36, y37] s)) s) fun y38 s =>
  bndP (pickA y35 y38 ((.bool false) : AV)) fun y39 =>
  k (.mk y39 .top .top .top .top .top .top .top) s
noncomputable def S13c {R : Type} (call : Nat → List AV → M AV) (fuel : Nat) : SC V13 W13 R := sSeq (sReg 1 (S13r0 call)) (sSeq (sReg 8 (S13r1 call)) (sSeq (sReg 7 (S13r2 call)) (sSeq (sReg 8 (S13r3 call)) (sSeq (sReg 8 (S13r4 call)) (sSeq (sReg 51 (S13r5 call)) (sRet))))))
noncomputable def S13e : Ex → W13 → AS → Option (AV × AS) := fun e w s => (@W13.rec (fun _ => Option (AV × AS)) fun x0 _ _ _ _ _ _ _ => @Ex.rec (fun _ => Option (AV × AS)) (some (x0, s)) (fun _ => none) (some (x0, s)) e) w
noncomputable def S13 (call : Nat → List AV → M AV) (fuel : Nat) (args : List AV) (s : AS) : Option (AV × AS) := match args with
  | [] => S13c call fuel () s S13e
  | _ => none
theorem S13_sim (call : Nat → List AV → M AV) (fuel : Nat) : Sim (R := AV × AS) call fuel mi13 mo13 A13.code (S13c call fuel) := by
  refine sim_seq (sim_reg (fun _ _ _ _ => by kernel_rfl)) (sim_seq (sim_reg (fun ⟨x0, x1, x3, x4, x5, x7, x8, x10⟩ _ _ _ => by kernel_rfl)) (sim_seq (sim_reg (fun ⟨x0, x1, x3, x4, x5, x7, x8, x10⟩ _ _ _ => by kernel_rfl)) (sim_seq (sim_reg (fun ⟨x0, x1, x3, x4, x5, x7, x8, x10⟩ _ _ _ => by kernel_rfl)) (sim_seq (sim_reg (fun ⟨x0, x1, x3, x4, x5, x7, x8, x10⟩ _ _ _ => by kernel_rfl)) (sim_seq (sim_reg (fun ⟨x0, x1, x3, x4, x5, x7, x8, x10⟩ _ _ _ => by kernel_rfl)) (sim_ret))))))
theorem S13_ok (call : Nat → List AV → M AV) (fuel : Nat) (args : List AV) (s : AS) : afn call fuel A13 args s = S13 call fuel args s := by
  rcases args with _ | ⟨x0, r⟩
  · exact (afn_sim (S13_sim call fuel) (v := ()) (e2 := S13e) (by kernel_rfl) (by kernel_rfl) (fun e w s => by cases w; cases e <;> kernel_rfl)).trans (by kernel_rfl)
  · kernel_rfl
def A14 : AFn := { nargs := 2, ntmps := 93, res := [.tmp 4], code := .seq (.ops [⟨0, (some 4), none, .p (.mv (.const (.bool false))), []⟩] 1 [0, 1]) (.seq (.seq (.ops [⟨0, (some 9), none, .p (.mv (.tmp 0)), []⟩, ⟨1, (some 10), none, .p (.lenS false (.tmp 9)), []⟩, ⟨2, (some 11), none, .p (.mv (.tmp 1)), []⟩, ⟨3, (some 12), none, .p (.lenS false (.tmp 11)), []⟩, ⟨4, (some 13), none, .p (.bin .neq (.tmp 10) (.tmp 12)), []⟩] 5 [0, 1, 13]) (.cond (.tmp 13) (.seq (.ops [⟨0, (some 4), none, .p (.mv (.const (.bool false))), []⟩] 1 [4]) (.ret)) (.skip))) (.seq (.seq (.ops [⟨0, (some 5), none, .p (.mv (.const (.int .i64 0))), []⟩] 1 [0, 1, 5]) (.block 0 (.loop (.seq (.seq (.ops [⟨0, (some 14), none, .p (.mv (.tmp 5)), []⟩, ⟨1, (some 15), none, .p (.mv (.tmp 0)), []⟩, ⟨2, (some 16), none, .p (.lenS false (.tmp 15)), []⟩, ⟨3, (some 17), none, .p (.bin .lss (.tmp 14) (.tmp 16)), []⟩] 4 [0, 1, 5, 17]) (.cond (.tmp 17) (.skip) (.exit 0))) (.seq (.block 1 (.seq (.seq (.ops [⟨0, (some 20), none, .p (.mv (.tmp 0)), []⟩, ⟨1, (some 21), none, .p (.mv (.tmp 5)), []⟩, ⟨2, (some 22), none, .p (.idx 2 (.tmp 20) (.tmp 21)), []⟩, ⟨3, (some 23), none, .p (.fld 0 (.tmp 22)), []⟩, ⟨5, (some 25), none, .p (.mv (.tmp 1)), []⟩, ⟨6, (some 26), none, .p (.mv (.tmp 5)), []⟩, ⟨7, (some 27), none, .p (.idx 2 (.tmp 25) (.tmp 26)), []⟩, ⟨8, (some 28), none, .p (.fld 0 (.tmp 27)), []⟩, ⟨4, (some 24), none, .r (.load false 1 (.tmp 23)), []⟩, ⟨9, (some 29), none, .r (.load false 1 (.tmp 28)), []⟩, ⟨10, (some 30), none, .p (.bin .neq (.tmp 24) (.tmp 29)), []⟩, ⟨11, (some 31), none, .p (.mv (.tmp 30)), []⟩, ⟨12, (some 32), (some (31, false)), .p (.mv (.tmp 0)), []⟩, ⟨13, (some 33), (some (31, false)), .p (.mv (.tmp 5)), []⟩, ⟨14, (some 34), (some (31, false)), .p (.idx 2 (.tmp 32) (.tmp 33)), []⟩, ⟨15, (some 35), (some (31, false)), .p (.fld 1 (.tmp 34)), []⟩, ⟨18, (some 38), (some (31, false)), .p (.mv (.tmp 1)), []⟩, ⟨19, (some 39), (some (31, false)), .p (.mv (.tmp 5)), []⟩, ⟨20, (some 40), (some (31, false)), .p (.idx 2 (.tmp 38) (.tmp 39)), []⟩, ⟨21, (some 41), (some (31, false)), .p (.fld 1 (.tmp 40)), []⟩, ⟨16, (some 36), (some (31, false)), .r (.load false 1 (.tmp 35)), []⟩, ⟨17, (some 37), (some (31, false)), .p (.lenS false (.tmp 36)), []⟩, ⟨22, (some 42), (some (31, false)), .r (.load false 1 (.tmp 41)), []⟩, ⟨23, (some 43), (some (31, false)), .p (.lenS false (.tmp 42)), []⟩, ⟨24, (some 44), (some (31, false)), .p (.bin .neq (.tmp 37) (.tmp 43)), []⟩, ⟨25, (some 45), none, .p (.pick (.tmp 31) (.const (.bool true)) (.tmp 44)), []⟩] 26 [0, 1, 5, 45]) (.cond (.tmp 45) (.seq (.ops [⟨0, (some 4), none, .p (.mv (.const (.bool false))), []⟩] 1 [4]) (.ret)) (.skip))) (.seq (.ops [⟨0, (some 6), none, .p (.mv (.const (.int .i64 0))), []⟩] 1 [0, 1, 5, 6]) (.block 2 (.loop (.seq (.seq (.ops [⟨0, (some 46), none, .p (.mv (.tmp 6)), []⟩, ⟨1, (some 47), none, .p (.mv (.tmp 0)), []⟩, ⟨2, (some 48), none, .p (.mv (.tmp 5)), []⟩, ⟨3, (some 49), none, .p (.idx 2 (.tmp 47) (.tmp 48)), []⟩, ⟨4, (some 50), none, .p (.fld 1 (.tmp 49)), []⟩, ⟨5, (some 51), none, .r (.load false 1 (.tmp 50)), []⟩, ⟨6, (some 52), none, .p (.lenS false (.tmp 51)), []⟩, ⟨7, (some 53), none, .p (.bin .lss (.tmp 46) (.tmp 52)), []⟩] 8 [0, 1, 5, 6, 53]) (.cond (.tmp 53) (.skip) (.exit 2))) (.seq (.block 3 (.seq (.ops [⟨0, (some 56), none, .p (.mv (.tmp 0)), []⟩, ⟨1, (some 57), none, .p (.mv (.tmp 5)), []⟩, ⟨2, (some 58), none, .p (.idx 2 (.tmp 56) (.tmp 57)), []⟩, ⟨3, (some 59), none, .p (.fld 1 (.tmp 58)), []⟩, ⟨5, (some 61), none, .p (.mv (.tmp 6)), []⟩, ⟨8, (some 64), none, .p (.mv (.tmp 1)), []⟩, ⟨9, (some 65), none, .p (.mv (.tmp 5)), []⟩, ⟨10, (some 66), none, .p (.idx 2 (.tmp 64) (.tmp 65)), []⟩, ⟨11, (some 67), none, .p (.fld 1 (.tmp 66)), []⟩, ⟨13, (some 69), none, .p (.mv (.tmp 6)), []⟩, ⟨4, (some 60), none, .r (.load false 1 (.tmp 59)), []⟩, ⟨6, (some 62), none, .p (.idx 3 (.tmp 60) (.tmp 61)), []⟩, ⟨7, (some 63), none, .r (.load true 3 (.tmp 62)), []⟩, ⟨12, (some 68), none, .r (.load false 1 (.tmp 67)), []⟩, ⟨14, (some 70), none, .p (.idx 3 (.tmp 68) (.tmp 69)), []⟩, ⟨15, (some 71), none, .r (.load true 3 (.tmp 70)), []⟩, ⟨16, (some 7), none, .l (.alloc [.str [], .nils, .nils]), []⟩, ⟨17, (some 8), none, .l (.alloc [.str [], .nils, .nils]), []⟩, ⟨18, none, none, .e (.store (.tmp 7) (.tmp 63) 3), [(none, (.load false 1 (.tmp 67))), (none, (.load true 3 (.tmp 70)))]⟩, ⟨19, none, none, .e (.store (.tmp 8) (.tmp 71) 3), []⟩] 20 [0, 1, 5, 6, 7, 8]) (.seq (.ops [⟨0, (some 72), none, .p (.fld 0 (.tmp 7)), []⟩, ⟨1, (some 73), none, .r (.load false 1 (.tmp 72)), []⟩, ⟨2, (some 74), none, .p (.fld 0 (.tmp 8)), []⟩, ⟨3, (some 75), none, .r (.load false 1 (.tmp 74)), []⟩, ⟨4, (some 76), none, .p (.bin .neq (.tmp 73) (.tmp 75)), []⟩, ⟨5, (some 77), none, .p (.mv (.tmp 76)), []⟩, ⟨6, (some 78), (some (77, false)), .p (.fld 1 (.tmp 7)), []⟩, ⟨7, (some 79), (some (77, false)), .r (.load false 1 (.tmp 78)), []⟩, ⟨8, (some 80), (some (77, false)), .p (.fld 1 (.tmp 8)), []⟩, ⟨9, (some 81), (some (77, false)), .r (.load false 1 (.tmp 80)), []⟩, ⟨10, (some 82), (some (77, false)), .e (.call true 30 [.tmp 79, .tmp 81]), []⟩, ⟨11, (some 83), (some (77, false)), .p (.notb (.tmp 82)), []⟩, ⟨12, (some 84), none, .p (.pick (.tmp 77) (.const (.bool true)) (.tmp 83)), []⟩, ⟨13, (some 85), none, .p (.mv (.tmp 84)), []⟩, ⟨14, (some 86), (some (85, false)), .p (.fld 2 (.tmp 7)), []⟩, ⟨15, (some 87), (some (85, false)), .r (.load false 1 (.tmp 86)), []⟩, ⟨16, (some 88), (some (85, false)), .p (.fld 2 (.tmp 8)), []⟩, ⟨17, (some 89), (some (85, false)), .r (.load false 1 (.tmp 88)), []⟩, ⟨18, (some 90), (some (85, false)), .e (.call true 31 [.tmp 87, .tmp 89]), []⟩, ⟨19, (some 91), (some (85, false)), .p (.notb (.tmp 90)), []⟩, ⟨20, (some 92), none, .p (.pick (.tmp 85) (.const (.bool true)) (.tmp 91)), []⟩] 21 [0, 1, 5, 6, 92]) (.cond (.tmp 92) (.seq (.ops [⟨0, (some 4), none, .p (.mv (.const (.bool false))), []⟩] 1 [4]) (.ret)) (.skip))))) (.ops [⟨0, (some 54), none, .p (.mv (.tmp 6)), []⟩, ⟨1, (some 55), none, .p (.bin .add (.tmp 54) (.const (.int .i64 1))), []⟩, ⟨2, (some 6), none, .p (.mv (.tmp 55)), []⟩] 3 [0, 1, 5, 6])))))))) (.ops [⟨0, (some 18), none, .p (.mv (.tmp 5)), []⟩, ⟨1, (some 19), none, .p (.bin .add (.tmp 18) (.const (.int .i64 1))), []⟩, ⟨2, (some 5), none, .p (.mv (.tmp 19)), []⟩] 3 [0, 1, 5])))))) (.seq (.ops [⟨0, (some 4), none, .p (.mv (.const (.bool true))), []⟩] 1 [4]) (.ret)))) }
def N14 : Notes := { note := fun | 6 => some ⟨[0, 1, 2, 3, 5, 6, 7, 8, 4, 9, 10, 11, 12, 13, 14, 15, 18, 19, 20, 21, 16, 17, 22, 23, 24, 25], [0, 0, 3, 7, 15, 0, 0, 96, 224, 480, 1023, 2047, 4095, 4095, 16383, 32767, 65535, 131071, 4095, 4095, 790527, 1839103, 3936255, 8130559, 16777215, 33554431], [[], [], [], [], [], [], [], [], [], [], [], [], [], [], [], [], [], [], [], [], [], [], [], [], [], []]⟩ | 11 => some ⟨[0, 1, 2, 3, 5, 8, 9, 10, 11, 13, 4, 6, 7, 12, 14, 15, 16, 17, 18, 19], [0, 0, 3, 7, 15, 0, 63, 127, 0, 0, 768, 1792, 3840, 0, 16128, 32512, 0, 0, 196863, 524287], [[], [], [], [], [], [], [], [], [], [], [], [], [], [], [], [], [], [], [12, 15], []]⟩ | _ => none, keep := fun | 14 => [4] | 5 => [0, 1, 5] | 10 => [0, 1, 5, 6] | 13 => [4] | 12 => [0, 1, 5, 6, 92] | 11 => [0, 1, 5, 6, 7, 8] | 9 => [0, 1, 5, 6, 53] | 8 => [0, 1, 5, 6] | 7 => [4] | 6 => [0, 1, 5, 45] | 4 => [0, 1, 5, 17] | 3 => [0, 1, 5] | 2 => [4] | 1 => [0, 1, 13] | 0 => [0, 1] | _ => [] }
theorem A14_ok : cFn Try.prog qf N14 Try.f14 = some A14 := by kernel_rfl
inductive W14 where
  | mk (x0 x1 x4 x5 x6 x7 x8 x13 x17 x45 x53 x92 : AV)
inductive V14 where
  | mk (x0 x1 : AV)
def mo14 : W14 → Fr := fun ⟨x0, x1, x4, x5, x6, x7, x8, x13, x17, x45, x53, x92⟩ => [x0, x1, .top, .top, x4, x5, x6, x7, x8, .top, .top, .top, .top, x13, .top, .top, .top, x17, .top, .top, .top, .top, .top, .top, .top, .top, .top, .top, .top, .top, .top, .top, .top, .top, .top, .top, .top, .top, .top, .top, .top, .top, .top, .top, .top, x45, .top, .top, .top, .top, .top, .top, .top, x53, .top, .top, .top, .top, .top, .top, .top, .top, .top, .top, .top, .top, .top, .top, .top, .top, .top, .top, .top, .top, .top, .top, .top, .top, .top, .top, .top, .top, .top, .top, .top, .top, .top, .top, .top, .top, .top, .top, x92]
def mi14 : V14 → Fr := fun ⟨x0, x1⟩ => [x0, x1, .tup [], .tup [], .tup [], .tup [], .tup [], .tup [], .tup [], .tup [], .tup [], .tup [], .tup [], .tup [], .tup [], .tup [], .tup [], .tup [], .tup [], .tup [], .tup [], .tup [], .tup [], .tup [], .tup [], .tup [], .tup [], .tup [], .tup [], .tup [], .tup [], .tup [], .tup [], .tup [], .tup [], .tup [], .tup [], .tup [], .tup [], .tup [], .tup [], .tup [], .tup [], .tup [], .tup [], .tup [], .tup [], .tup [], .tup [], .tup [], .tup [], .tup [], .tup [], .tup [], .tup [], .tup [], .tup [], .tup [], .tup [], .tup [], .tup [], .tup [], .tup [], .tup [], .tup [], .tup [], .tup [], .tup [], .tup [], .tup [], .tup [], .tup [], .tup [], .tup [], .tup [], .tup [], .tup [], .tup [], .tup [], .tup [], .tup [], .tup [], .tup [], .tup [], .tup [], .tup [], .tup [], .tup [], .tup [], .tup [], .tup [], .tup [], .tup []]
noncomputable def S14r0 {R : Type} (call : Nat → List AV → M AV) : V14 → Nat → AS → (W14 → AS → Option R) → Option R := @V14.rec (fun _ => Nat → AS → (W14 → AS → Option R) → Option R) fun x0 x1 base s k =>
  k (.mk x0 x1 .top .top .top .top .top .top .top .top .top .top) s
noncomputable def S14r1 {R : Type} (call : Nat → List AV → M AV) : W14 → Nat → AS → (W14 → AS → Option R) → Option R := @W14.rec (fun _ => Nat → AS → (W14 → AS → Option R) → Option R) fun x0 x1 x4 x5 x6 x7 x8 x13 x17 x45 x53 x92 base s k =>
  bndP (lenAQ false x0) fun y0 =>
  bndP (lenAQ false x1) fun y1 =>
  bndP (binQ .neq y0 y1) fun y2 =>
  k (.mk x0 x1 .top .top .top .top .top y2 .top .top .top .top) s
noncomputable def S14r2 {R : Type} (call : Nat → List AV → M AV) : W14 → Nat → AS → (W14 → AS → Option R) → Option R := @W14.rec (fun _ => Nat → AS → (W14 → AS → Option R) → Option R) fun x0 x1 x4 x5 x6 x7 x8 x13 x17 x45 x53 x92 base s k =>
  k (.mk .top .top ((.bool false) : AV) .top .top .top .top .top .top .top .top .top) s
noncomputable def S14r3 {R : Type} (call : Nat → List AV → M AV) : W14 → Nat → AS → (W14 → AS → Option R) → Option R := @W14.rec (fun _ => Nat → AS → (W14 → AS → Option R) → Option R) fun x0 x1 x4 x5 x6 x7 x8 x13 x17 x45 x53 x92 base s k =>
  k (.mk x0 x1 .top ((.int .i64 0) : AV) .top .top .top .top .top .top .top .top) s
noncomputable def S14r4 {R : Type} (call : Nat → List AV → M AV) : W14 → Nat → AS → (W14 → AS → Option R) → Option R := @W14.rec (fun _ => Nat → AS → (W14 → AS → Option R) → Option R) fun x0 x1 x4 x5 x6 x7 x8 x13 x17 x45 x53 x92 base s k =>
  bndP (lenAQ false x0) fun y0 =>
  bndP (binQ .lss x5 y0) fun y1 =>
  k (.mk x0 x1 .top x5 .top .top .top .top y1 .top .top .top) s
noncomputable def S14r5 {R : Type} (call : Nat → List AV → M AV) : W14 → Nat → AS → (W14 → AS → Option R) → Option R := @W14.rec (fun _ => Nat → AS → (W14 → AS → Option R) → Option R) fun x0 x1 x4 x5 x6 x7 x8 x13 x17 x45 x53 x92 base s k =>
  bndP (idxQ 2 x0 x5) fun y0 =>
  bndP (fldA 0 y0) fun y1 =>
  bndP (idxQ 2 x1 x5) fun y2 =>
  bndP (fldA 0 y2) fun y3 =>
  bndP (loadQ false 1 y1 s.h) fun y4 =>
  bndP (loadQ false 1 y3 s.h) fun y5 =>
  bndP (binQ .neq y4 y5) fun y6 =>
  bndO (gd (wantG y6 false) (fun s => (pureO (some x0) s)) s) fun y7 s =>
  bndO (gd (wantG y6 false) (fun s => (pureO (some x5) s)) s) fun y8 s =>
  bndO (gd (wantG y6 false) (fun s => (pureO (idxQ 2 y7 y8) s)) s) fun y9 s =>
  bndO (gd (wantG y6 false) (fun s => (pureO (fldA 1 y9) s)) s) fun y10 s =>
  bndO (gd (wantG y6 false) (fun s => (pureO (some x1) s)) s) fun y11 s =>
  bndO (gd (wantG y6 false) (fun s => (pureO (some x5) s)) s) fun y12 s =>
  bndO (gd (wantG y6 false) (fun s => (pureO (idxQ 2 y11 y12) s)) s) fun y13 s =>
  bndO (gd (wantG y6 false) (fun s => (pureO (fldA 1 y13) s)) s) fun y14 s =>
  bndO (gd (wantG y6 false) (fun s => (pureO (loadQ false 1 y10 s.h) s)) s) fun y15 s =>
  bndO (gd (wantG y6 false) (fun s => (pureO (lenAQ false y15) s)) s) fun y16 s =>
  bndO (gd (wantG y6 false) (fun s => (pureO (loadQ false 1 y14 s.h) s)) s) fun y17 s =>
  bndO (gd (wantG y6 false) (fun s => (pureO (lenAQ false y17) s)) s) fun y18 s =>
  bndO (gd (wantG y6 false) (fun s => (pureO (binQ .neq y16 y18) s)) s) fun y19 s =>
  bndP (pickA y6 ((.bool true) : AV) y19) fun y20 =>
  k (.mk x0 x1 .top x5 .top .top .top .top .top y20 .top .top) s
noncomputable def S14r6 {R : Type} (call : Nat → List AV → M AV) : W14 → Nat → AS → (W14 → AS → Option R) → Option R := @W14.rec (fun _ => Nat → AS → (W14 → AS → Option R) → Option R) fun x0 x1 x4 x5 x6 x7 x8 x13 x17 x45 x53 x92 base s k =>
  k (.mk .top .top ((.bool false) : AV) .top .top .top .top .top .top .top .top .top) s
noncomputable def S14r7 {R : Type} (call : Nat → List AV → M AV) : W14 → Nat → AS → (W14 → AS → Option R) → Option R := @W14.rec (fun _ => Nat → AS → (W14 → AS → Option R) → Option R) fun x0 x1 x4 x5 x6 x7 x8 x13 x17 x45 x53 x92 base s k =>
  k (.mk x0 x1 .top x5 ((.int .i64 0) : AV) .top .top .top .top .top .top .top) s
noncomputable def S14r8 {R : Type} (call : Nat → List AV → M AV) : W14 → Nat → AS → (W14 → AS → Option R) → Option R := @W14.rec (fun _ => Nat → AS → (W14 → AS → Option R) → Option R) fun x0 x1 x4 x5 x6 x7 x8 x13 x17 x45 x53 x92 base s k =>
  bndP (idxQ 2 x0 x5) fun y0 =>
  bndP (fldA 1 y0) fun y1 =>
  bndP (loadQ false 1 y1 s.h) fun y2 =>
  bndP (lenAQ false y2) fun y3 =>
  bndP (binQ .lss x6 y3) fun y4 =>
  k (.mk x0 x1 .top x5 x6 .top .top .top .top .top y4 .top) s
noncomputable def S14r9 {R : Type} (call : Nat → List AV → M AV) : W14 → Nat → AS → (W14 → AS → Option R) → Option R := @W14.rec (fun _ => Nat → AS → (W14 → AS → Option R) → Option R) fun x0 x1 x4 x5 x6 x7 x8 x13 x17 x45 x53 x92 base s k =>
  bndP (idxQ 2 x0 x5) fun y0 =>
  bndP (fldA 1 y0) fun y1 =>
  bndP (idxQ 2 x1 x5) fun y2 =>
  bndP (fldA 1 y2) fun y3 =>
  bndP (loadQ false 1 y1 s.h) fun y4 =>
  bndP (idxQ 3 y4 x6) fun y5 =>
  bndP (loadQ true 3 y5 s.h) fun y6 =>
  bndP (loadQ false 1 y3 s.h) fun y7 =>
  bndP (idxQ 3 y7 x6) fun y8 =>
  bndP (loadQ true 3 y8 s.h) fun y9 =>
  bndO (newQ (base + 16) (allocB [(.str []), .nils, .nils] (base + 16)) s) fun y10 s =>
  bndO (newQ (base + 17) (allocB [(.str []), .nils, .nils] (base + 17)) s) fun y11 s =>
  bndO (ckd (fun h h' => (rcS (some true) (fun h => (loadA false 1 y3 h)) h h' && (rcS (some true) (fun h => (loadA true 3 y8 h)) h h' && true))) (fun s => (storeQ y10 y6 3 s)) s) fun _ s =>
  bndO (storeQ y11 y9 3 s) fun _ s =>
  k (.mk x0 x1 .top x5 x6 y10 y11 .top .top .top .top .top) s
noncomputable def S14r10 {R : Type} (call : Nat → List AV → M AV) : W14 → Nat → AS → (W14 → AS → Option R) → Option R := @W14.rec (fun _ => Nat → AS → (W14 → AS → Option R) → Option R) fun x0 x1 x4 x5 x6 x7 x8 x13 x17 x45 x53 x92 base s k =>
  bndP (fldA 0 x7) fun y0 =>
  bndP (loadQ false 1 y0 s.h) fun y1 =>
  bndP (fldA 0 x8) fun y2 =>
  bndP (loadQ false 1 y2 s.h) fun y3 =>
  bndP (binQ .neq y1 y3) fun y4 =>
  bndO (gd (wantG y4 false) (fun s => (pureO (fldA 1 x7) s)) s) fun y5 s =>
  bndO (gd (wantG y4 false) (fun s => (pureO (loadQ false 1 y5 s.h) s)) s) fun y6 s =>
  bndO (gd (wantG y4 false) (fun s => (pureO (fldA 1 x8) s)) s) fun y7 s =>
  bndO (gd (wantG y4 false) (fun s => (pureO (loadQ false 1 y7 s.h) s)) s) fun y8 s =>
  bndO (gd (wantG y4 false) (fun s => (quietQ call 30 [y6, y8] s)) s) fun y9 s =>
  bndO (gd (wantG y4 false) (fun s => (pureO (notA y9) s)) s) fun y10 s =>
  bndP (pickA y4 ((.bool true) : AV) y10) fun y11 =>
  bndO (gd (wantG y11 false) (fun s => (pureO (fldA 2 x7) s)) s) fun y12 s =>
  bndO (gd (wantG y11 false) (fun s => (pureO (loadQ false 1 y12 s.h) s)) s) fun y13 s =>
  bndO (gd (wantG y11 false) (fun s => (pureO (fldA 2 x8) s)) s) fun y14 s =>
  bndO (gd (wantG y11 false) (fun s => (pureO (loadQ false 1 y14 s.h) s)) s) fun y15 s =>
  bndO (gd (wantG y11 false) (fun s => (quietQ call 31 [y13, y15] s)) s) fun y16 s =>
  bndO (gd (wantG y11 false) (fun s => (pureO (notA y16) s)) s) fun y17 s =>
  bndP (pickA y11 ((.bool true) : AV) y17) fun y18 =>
  k (.mk x0 x1 .top x5 x6 .top .top .top .top .top .top y18) s
noncomputable def S14r11 {R : Type} (call : Nat → List AV → M AV) : W14 → Nat → AS → (W14 → AS → Option R) → Option R := @W14.rec (fun _ => Nat → AS → (W14 → AS → Option R) → Option R) fun x0 x1 x4 x5 x6 x7 x8 x13 x17 x45 x53 x92 base s k =>
  k (.mk .top .top ((.bool false) : AV) .top .top .top .top .top .top .top .top .top) s
noncomputable def S14r12 {R : Type} (call : Nat → List AV → M AV) : W14 → Nat → AS → (W14 → AS → Option R) → Option R := @W14.rec (fun _ => Nat → AS → (W14 → AS → Option R) → Option R) fun x0 x1 x4 x5 x6 x7 x8 x13 x17 x45 x53 x92 base s k =>
  bndP (binQ .add x6 ((.int .i64 1) : AV)) fun y0 =>
  k (.mk x0 x1 .top x5 y0 .top .top .top .top .top .top .top) s
noncomputable def S14b13 {R : Type} (call : Nat → List AV → M AV) (fuel : Nat) : SC W14 W14 R := sSeq (sSeq (sReg 8 (S14r8 call)) (sCond (@W14.rec (fun _ => AV) fun _ _ _ _ _ _ _ _ _ _ x53 _ => x53) (sSkip) (sExit 2))) (sSeq (sBlock 3 (sSeq (sReg 20 (S14r9 call)) (sSeq (sReg 21 (S14r10 call)) (sCond (@W14.rec (fun _ => AV) fun _ _ _ _ _ _ _ _ _ _ _ x92 => x92) (sSeq (sReg 1 (S14r11 call)) (sRet)) (sSkip))))) (sReg 3 (S14r12 call)))
noncomputable def S14r14 {R : Type} (call : Nat → List AV → M AV) : W14 → Nat → AS → (W14 → AS → Option R) → Option R := @W14.rec (fun _ => Nat → AS → (W14 → AS → Option R) → Option R) fun x0 x1 x4 x5 x6 x7 x8 x13 x17 x45 x53 x92 base s k =>
  bndP (binQ .add x5 ((.int .i64 1) : AV)) fun y0 =>
  k (.mk x0 x1 .top y0 .top .top .top .top .top .top .top .top) s
noncomputable def S14b15 {R : Type} (call : Nat → List AV → M AV) (fuel : Nat) : SC W14 W14 R := sSeq (sSeq (sReg 4 (S14r4 call)) (sCond (@W14.rec (fun _ => AV) fun _ _ _ _ _ _ _ _ x17 _ _ _ => x17) (sSkip) (sExit 0))) (sSeq (sBlock 1 (sSeq (sSeq (sReg 26 (S14r5 call)) (sCond (@W14.rec (fun _ => AV) fun _ _ _ _ _ _ _ _ _ x45 _ _ => x45) (sSeq (sReg 1 (S14r6 call)) (sRet)) (sSkip))) (sSeq (sReg 1 (S14r7 call)) (sBlock 2 (sLoop fuel (S14b13 call fuel)))))) (sReg 3 (S14r14 call)))
noncomputable def S14r16 {R : Type} (call : Nat → List AV → M AV) : W14 → Nat → AS → (W14 → AS → Option R) → Option R := @W14.rec (fun _ => Nat → AS → (W14 → AS → Option R) → Option R) fun x0 x1 x4 x5 x6 x7 x8 x13 x17 x45 x53 x92 base s k =>
  k (.mk .top .top ((.bool true) : AV) .top .top .top .top .top .top .top .top .top) s
noncomputable def S14c {R : Type} (call : Nat → List AV → M AV) (fuel : Nat) : SC V14 W14 R := sSeq (sReg 1 (S14r0 call)) (sSeq (sSeq (sReg 5 (S14r1 call)) (sCond (@W14.rec (fun _ => AV) fun _ _ _ _ _ _ _ x13 _ _ _ _ => x13) (sSeq (sReg 1 (S14r2 call)) (sRet)) (sSkip))) (sSeq (sSeq (sReg 1 (S14r3 call)) (sBlock 0 (sLoop fuel (S14b15 call fuel)))) (sSeq (sReg 1 (S14r16 call)) (sRet))))
noncomputable def S14e : Ex → W14 → AS → Option (AV × AS) := fun e w s => (@W14.rec (fun _ => Option (AV × AS)) fun _ _ x4 _ _ _ _ _ _ _ _ _ => @Ex.rec (fun _ => Option (AV × AS)) (some (x4, s)) (fun _ => none) (some (x4, s)) e) w
noncomputable def S14 (call : Nat → List AV → M AV) (fuel : Nat) (args : List AV) (s : AS) : Option (AV × AS) := match args with
  | [x0, x1] => S14c call fuel (.mk x0 x1) s S14e
  | _ => none
theorem S14_sim (call : Nat → List AV → M AV) (fuel : Nat) : Sim (R := AV × AS) call fuel mi14 mo14 A14.code (S14c call fuel) := by
  refine sim_seq (sim_reg (fun ⟨x0, x1⟩ _ _ _ => by kernel_rfl)) (sim_seq (sim_seq (sim_reg (fun ⟨x0, x1, x4, x5, x6, x7, x8, x13, x17, x45, x53, x92⟩ _ _ _ => by kernel_rfl)) (sim_cond (fun ⟨x0, x1, x4, x5, x6, x7, x8, x13, x17, x45, x53, x92⟩ => by kernel_rfl) (sim_seq (sim_reg (fun ⟨x0, x1, x4, x5, x6, x7, x8, x13, x17, x45, x53, x92⟩ _ _ _ => by kernel_rfl)) (sim_ret)) (sim_skip))) (sim_seq (sim_seq (sim_reg (fun ⟨x0, x1, x4, x5, x6, x7, x8, x13, x17, x45, x53, x92⟩ _ _ _ => by kernel_rfl)) (sim_block (sim_loop (sim_seq (sim_seq (sim_reg (fun ⟨x0, x1, x4, x5, x6, x7, x8, x13, x17, x45, x53, x92⟩ _ _ _ => by kernel_rfl)) (sim_cond (fun ⟨x0, x1, x4, x5, x6, x7, x8, x13, x17, x45, x53, x92⟩ => by kernel_rfl) (sim_skip) (sim_exit))) (sim_seq (sim_block (sim_seq (sim_seq (sim_reg (fun ⟨x0, x1, x4, x5, x6, x7, x8, x13, x17, x45, x53, x92⟩ _ _ _ => by kernel_rfl)) (sim_cond (fun ⟨x0, x1, x4, x5, x6, x7, x8, x13, x17, x45, x53, x92⟩ => by kernel_rfl) (sim_seq (sim_reg (fun ⟨x0, x1, x4, x5, x6, x7, x8, x13, x17, x45, x53, x92⟩ _ _ _ => by kernel_rfl)) (sim_ret)) (sim_skip))) (sim_seq (sim_reg (fun ⟨x0, x1, x4, x5, x6, x7, x8, x13, x17, x45, x53, x92⟩ _ _ _ => by kernel_rfl)) (sim_block (sim_loop (sim_seq (sim_seq (sim_reg (fun ⟨x0, x1, x4, x5, x6, x7, x8, x13, x17, x45, x53, x92⟩ _ _ _ => by kernel_rfl)) (sim_cond (fun ⟨x0, x1, x4, x5, x6, x7, x8, x13, x17, x45, x53, x92⟩ => by kernel_rfl) (sim_skip) (sim_exit))) (sim_seq (sim_block (sim_seq (sim_reg (fun ⟨x0, x1, x4, x5, x6, x7, x8, x13, x17, x45, x53, x92⟩ _ _ _ => by kernel_rfl)) (sim_seq (sim_reg (fun ⟨x0, x1, x4, x5, x6, x7, x8, x13, x17, x45, x53, x92⟩ _ _ _ => by kernel_rfl)) (sim_cond (fun ⟨x0, x1, x4, x5, x6, x7, x8, x13, x17, x45, x53, x92⟩ => by kernel_rfl) (sim_seq (sim_reg (fun ⟨x0, x1, x4, x5, x6, x7, x8, x13, x17, x45, x53, x92⟩ _ _ _ => by kernel_rfl)) (sim_ret)) (sim_skip))))) (sim_reg (fun ⟨x0, x1, x4, x5, x6, x7, x8, x13, x17, x45, x53, x92⟩ _ _ _ => by kernel_rfl))))))))) (sim_reg (fun ⟨x0, x1, x4, x5, x6, x7, x8, x13, x17, x45, x53, x92⟩ _ _ _ => by kernel_rfl))))))) (sim_seq (sim_reg (fun ⟨x0, x1, x4, x5, x6, x7, x8, x13, x17, x45, x53, x92⟩ _ _ _ => by kernel_rfl)) (sim_ret))))
theorem S14_ok (call : Nat → List AV → M AV) (fuel : Nat) (args : List AV) (s : AS) : afn call fuel A14 args s = S14 call fuel args s := by
  rcases args with _ | ⟨x0, _ | ⟨x1, _ | ⟨x2, r⟩⟩⟩
  · kernel_rfl
  · kernel_rfl
  · exact (afn_sim (S14_sim call fuel) (v := (.mk x0 x1)) (e2 := S14e) (by kernel_rfl) (by kernel_rfl) (fun e w s => by cases w; cases e <;> kernel_rfl)).trans (by kernel_rfl)
  · kernel_rfl
def A26 : AFn := { nargs := 1, ntmps := 70, res := [.tmp 2, .tmp 3], code := .seq (.ops [⟨0, (some 2), none, .p (.mv (.const (.str []))), []⟩, ⟨1, (some 3), none, .p (.mv (.const (.bool false))), []⟩] 2 [0]) (.seq (.ops [⟨0, (some 4), none, .l .allocB, []⟩] 1 [0, 4]) (.seq (.seq (.ops [⟨0, (some 14), none, .p (.mv (.tmp 0)), []⟩, ⟨1, (some 15), none, .p (.lenS false (.tmp 14)), []⟩, ⟨2, (some 16), none, .p (.mv (.const (.int .i64 0))), []⟩] 3 [0, 4, 14, 15, 16]) (.block 0 (.loop (.seq (.ops [⟨0, (some 17), none, .p (.bin .lss (.tmp 16) (.tmp 15)), []⟩] 1 [0, 4, 14, 15, 16, 17]) (.seq (.cond (.tmp 17) (.skip) (.exit 0)) (.seq (.block 1 (.seq (.ops [⟨0, (some 18), none, .p (.idx 2 (.tmp 14) (.tmp 16)), []⟩, ⟨1, (some 19), none, .r (.load true 2 (.tmp 18)), []⟩, ⟨2, (some 6), none, .l (.alloc [.str [], .nils]), []⟩, ⟨3, none, none, .e (.store (.tmp 6) (.tmp 19) 2), []⟩] 4 [0, 4, 6, 14, 15, 16]) (.seq (.ops [⟨0, (some 20), none, .p (.fld 0 (.tmp 6)), []⟩, ⟨1, (some 21), none, .r (.load false 1 (.tmp 20)), []⟩, ⟨2, (some 22), none, .p (.bin .add (.const (.str [116, 121, 112, 101, 32])) (.tmp 21)), []⟩, ⟨3, (some 23), none, .e (.call false 50 [.tmp 4, .tmp 22]), []⟩] 4 [0, 4, 6, 14, 15, 16]) (.seq (.seq (.ops [⟨0, (some 24), none, .p (.fld 1 (.tmp 6)), []⟩, ⟨1, (some 25), none, .r (.load false 1 (.tmp 24)), []⟩, ⟨2, (some 26), none, .p (.lenS false (.tmp 25)), []⟩, ⟨3, (some 27), none, .p (.bin .gtr (.tmp 26) (.const (.int .i64 0))), []⟩] 4 [0, 4, 6, 14, 15, 16, 27]) (.cond (.tmp 27) (.seq (.ops [⟨0, (some 28), none, .e (.call false 50 [.tmp 4, .const (.str [32, 123, 10])]), []⟩] 1 [0, 4, 6, 14, 15, 16]) (.seq (.seq (.ops [⟨0, (some 29), none, .p (.fld 1 (.tmp 6)), []⟩, ⟨1, (some 30), none, .r (.load false 1 (.tmp 29)), []⟩, ⟨2, (some 31), none, .p (.lenS false (.tmp 30)), []⟩, ⟨3, (some 32), none, .p (.mv (.const (.int .i64 0))), []⟩] 4 [0, 4, 14, 15, 16, 30, 31, 32]) (.block 2 (.loop (.seq (.ops [⟨0, (some 33), none, .p (.bin .lss (.tmp 32) (.tmp 31)), []⟩] 1 [0, 4, 14, 15, 16, 30, 31, 32, 33]) (.seq (.cond (.tmp 33) (.skip) (.exit 2)) (.seq (.block 3 (.seq (.ops [⟨0, (some 34), none, .p (.idx 3 (.tmp 30) (.tmp 32)), []⟩, ⟨1, (some 35), none, .r (.load true 3 (.tmp 34)), []⟩, ⟨2, (some 8), none, .l (.alloc [.str [], .nils, .nils]), []⟩, ⟨3, none, none, .e (.store (.tmp 8) (.tmp 35) 3), []⟩] 4 [0, 4, 8, 14, 15, 16, 30, 31, 32]) (.seq (.ops [⟨0, (some 37), none, .r (.load true 3 (.tmp 8)), []⟩, ⟨1, (some 38), none, .e (.call true 51 [.tmp 37]), []⟩, ⟨2, (some 36), none, .p (.mv (.tmp 38)), []⟩, ⟨3, (some 39), none, .p (.extract (.tmp 36) 0), []⟩, ⟨4, (some 40), none, .p (.extract (.tmp 36) 1), []⟩, ⟨5, (some 9), none, .p (.mv (.tmp 39)), []⟩, ⟨6, (some 10), none, .p (.mv (.tmp 40)), []⟩] 7 [0, 4, 9, 10, 14, 15, 16, 30, 31, 32]) (.seq (.seq (.ops [⟨0, (some 41), none, .p (.mv (.tmp 10)), []⟩, ⟨1, (some 42), none, .p (.notb (.tmp 41)), []⟩, ⟨2, (some 43), none, .p (.mv (.tmp 42)), []⟩, ⟨3, (some 44), (some (43, false)), .e (.call true 52 [.tmp 4]), []⟩, ⟨4, (some 45), (some (43, false)), .p (.bin .gtr (.tmp 44) (.const (.int .i64 100000))), []⟩, ⟨5, (some 46), none, .p (.pick (.tmp 43) (.const (.bool true)) (.tmp 45)), []⟩] 6 [0, 4, 9, 14, 15, 16, 30, 31, 32, 46]) (.cond (.tmp 46) (.seq (.ops [⟨0, (some 2), none, .p (.mv (.const (.str []))), []⟩, ⟨1, (some 3), none, .p (.mv (.const (.bool false))), []⟩] 2 [2, 3]) (.ret)) (.skip))) (.ops [⟨0, (some 47), none, .p (.mv (.tmp 9)), []⟩, ⟨1, (some 48), none, .p (.bin .add (.const (.str [9])) (.tmp 47)), []⟩, ⟨2, (some 49), none, .p (.bin .add (.tmp 48) (.const (.str [10]))), []⟩, ⟨3, (some 50), none, .e (.call false 50 [.tmp 4, .tmp 49]), []⟩] 4 [0, 4, 14, 15, 16, 30, 31, 32]))))) (.ops [⟨0, (some 51), none, .p (.bin .add (.tmp 32) (.const (.int .i64 1))), []⟩, ⟨1, (some 32), none, .p (.mv (.tmp 51)), []⟩] 2 [0, 4, 14, 15, 16, 30, 31, 32]))))))) (.ops [⟨0, (some 52), none, .e (.call false 50 [.tmp 4, .const (.str [125])]), []⟩] 1 [0, 4, 14, 15, 16]))) (.skip))) (.ops [⟨0, (some 53), none, .e (.call false 50 [.tmp 4, .const (.str [10])]), []⟩] 1 [0, 4, 14, 15, 16]))))) (.ops [⟨0, (some 54), none, .p (.bin .add (.tmp 16) (.const (.int .i64 1))), []⟩, ⟨1, (some 16), none, .p (.mv (.tmp 54)), []⟩] 2 [0, 4, 14, 15, 16]))))))) (.seq (.ops [⟨0, (some 56), none, .e (.call true 53 [.tmp 4]), []⟩, ⟨1, (some 57), none, .e (.call true 12 [.tmp 56]), []⟩, ⟨2, (some 55), none, .p (.mv (.tmp 57)), []⟩, ⟨3, (some 58), none, .p (.extract (.tmp 55) 0), []⟩, ⟨4, (some 59), none, .p (.extract (.tmp 55) 1), []⟩, ⟨5, (some 60), none, .p (.extract (.tmp 55) 2), []⟩, ⟨6, (some 11), none, .p (.mv (.tmp 58)), []⟩, ⟨7, (some 12), none, .p (.mv (.tmp 59)), []⟩, ⟨8, (some 13), none, .p (.mv (.tmp 60)), []⟩] 9 [0, 4, 11, 13]) (.seq (.seq (.ops [⟨0, (some 61), none, .p (.mv (.tmp 13)), []⟩, ⟨1, (some 62), none, .p (.bin .neq (.tmp 61) (.const (.int .i64 0))), []⟩, ⟨2, (some 63), none, .p (.mv (.tmp 62)), []⟩, ⟨3, (some 64), (some (63, false)), .p (.mv (.tmp 11)), []⟩, ⟨4, (some 65), (some (63, false)), .p (.mv (.tmp 0)), []⟩, ⟨5, (some 66), (some (63, false)), .e (.call true 29 [.tmp 64, .tmp 65]), []⟩, ⟨6, (some 67), (some (63, false)), .p (.notb (.tmp 66)), []⟩, ⟨7, (some 68), none, .p (.pick (.tmp 63) (.const (.bool true)) (.tmp 67)), []⟩] 8 [4, 68]) (.cond (.tmp 68) (.seq (.ops [⟨0, (some 2), none, .p (.mv (.const (.str []))), []⟩, ⟨1, (some 3), none, .p (.mv (.const (.bool false))), []⟩] 2 [2, 3]) (.ret)) (.skip))) (.seq (.ops [⟨0, (some 69), none, .e (.call true 53 [.tmp 4]), []⟩, ⟨1, (some 2), none, .p (.mv (.tmp 69)), []⟩, ⟨2, (some 3), none, .p (.mv (.const (.bool true))), []⟩] 3 [2, 3]) (.ret)))))) }
def N26 : Notes := { note := fun _ => none, keep := fun | 22 => [2, 3] | 21 => [2, 3] | 20 => [4, 68] | 19 => [0, 4, 11, 13] | 18 => [0, 4, 14, 15, 16] | 17 => [0, 4, 14, 15, 16] | 16 => [0, 4, 14, 15, 16] | 15 => [0, 4, 14, 15, 16, 30, 31, 32] | 14 => [0, 4, 14, 15, 16, 30, 31, 32] | 13 => [2, 3] | 12 => [0, 4, 9, 14, 15, 16, 30, 31, 32, 46] | 11 => [0, 4, 9, 10, 14, 15, 16, 30, 31, 32] | 10 => [0, 4, 8, 14, 15, 16, 30, 31, 32] | 9 => [0, 4, 14, 15, 16, 30, 31, 32, 33] | 8 => [0, 4, 14, 15, 16, 30, 31, 32] | 7 => [0, 4, 6, 14, 15, 16] | 6 => [0, 4, 6, 14, 15, 16, 27] | 5 => [0, 4, 6, 14, 15, 16] | 4 => [0, 4, 6, 14, 15, 16] | 3 => [0, 4, 14, 15, 16, 17] | 2 => [0, 4, 14, 15, 16] | 1 => [0, 4] | 0 => [0] | _ => [] }
theorem A26_ok : cFn Try.prog qf N26 Try.f26 = some A26 := by kernel_rfl
inductive W26 where
  | mk (x0 x2 x3 x4 x6 x8 x9 x10 x11 x13 x14 x15 x16 x17 x27 x30 x31 x32 x33 x46 x68 : AV)
abbrev V26 := AV
def mo26 : W26 → Fr := fun ⟨x0, x2, x3, x4, x6, x8, x9, x10, x11, x13, x14, x15, x16, x17, x27, x30, x31, x32, x33, x46, x68⟩ => [x0, .top, x2, x3, x4, .top, x6, .top, x8, x9, x10, x11, .top, x13, x14, x15, x16, x17, .top, .top, .top, .top, .top, .top, .top, .top, .top, x27, .top, .top, x30, x31, x32, x33, .top, .top, .top, .top, .top, .top, .top, .top, .top, .top, .top, .top, x46, .top, .top, .top, .top, .top, .top, .top, .top, .top, .top, .top, .top, .top, .top, .top, .top, .top, .top, .top, .top, .top, x68, .top]
def mi26 : V26 → Fr := fun x0 => [x0, .tup [], .tup [], .tup [], .tup [], .tup [], .tup [], .tup [], .tup [], .tup [], .tup [], .tup [], .tup [], .tup [], .tup [], .tup [], .tup [], .tup [], .tup [], .tup [], .tup [], .tup [], .tup [], .tup [], .tup [], .tup [], .tup [], .tup [], .tup [], .tup [], .tup [], .tup [], .tup [], .tup [], .tup [], .tup [], .tup [], .tup [], .tup [], .tup [], .tup [], .tup [], .tup [], .tup [], .tup [], .tup [], .tup [], .tup [], .tup [], .tup [], .tup [], .tup [], .tup [], .tup [], .tup [], .tup [], .tup [], .tup [], .tup [], .tup [], .tup [], .tup [], .tup [], .tup [], .tup [], .tup [], .tup [], .tup [], .tup [], .tup []]
noncomputable def S26r0 {R : Type} (call : Nat → List AV → M AV) : V26 → Nat → AS → (W26 → AS → Option R) → Option R := fun x0 base s k =>
  k (.mk x0 .top .top .top .top .top .top .top .top .top .top .top .top .top .top .top .top .top .top .top .top) s
noncomputable def S26r1 {R : Type} (call : Nat → List AV → M AV) : W26 → Nat → AS → (W26 → AS → Option R) → Option R := @W26.rec (fun _ => Nat → AS → (W26 → AS → Option R) → Option R) fun x0 x2 x3 x4 x6 x8 x9 x10 x11 x13 x14 x15 x16 x17 x27 x30 x31 x32 x33 x46 x68 base s k =>
  bndO (newQ (base + 0) (bldB (base + 0)) s) fun y0 s =>
  k (.mk x0 .top .top y0 .top .top .top .top .top .top .top .top .top .top .top .top .top .top .top .top .top) s
noncomputable def S26r2 {R : Type} (call : Nat → List AV → M AV) : W26 → Nat → AS → (W26 → AS → Option R) → Option R := @W26.rec (fun _ => Nat → AS → (W26 → AS → Option R) → Option R) fun x0 x2 x3 x4 x6 x8 x9 x10 x11 x13 x14 x15 x16 x17 x27 x30 x31 x32 x33 x46 x68 base s k =>
  bndP (lenAQ false x0) fun y0 =>
  k (.mk x0 .top .top x4 .top .top .top .top .top .top x0 y0 ((.int .i64 0) : AV) .top .top .top .top .top .top .top .top) s
noncomputable def S26r3 {R : Type} (call : Nat → List AV → M AV) : W26 → Nat → AS → (W26 → AS → Option R) → Option R := @W26.rec (fun _ => Nat → AS → (W26 → AS → Option R) → Option R) fun x0 x2 x3 x4 x6 x8 x9 x10 x11 x13 x14 x15 x16 x17 x27 x30 x31 x32 x33 x46 x68 base s k =>
  bndP (binQ .lss x16 x15) fun y0 =>
  k (.mk x0 .top .top x4 .top .top .top .top .top .top x14 x15 x16 y0 .top .top .top .top .top .top .top) s
noncomputable def S26r4 {R : Type} (call : Nat → List AV → M AV) : W26 → Nat → AS → (W26 → AS → Option R) → Option R := @W26.rec (fun _ => Nat → AS → (W26 → AS → Option R) → Option R) fun x0 x2 x3 x4 x6 x8 x9 x10 x11 x13 x14 x15 x16 x17 x27 x30 x31 x32 x33 x46 x68 base s k =>
  bndP (idxQ 2 x14 x16) fun y0 =>
  bndP (loadQ true 2 y0 s.h) fun y1 =>
  bndO (newQ (base + 2) (allocB [(.str []), .nils] (base + 2)) s) fun y2 s =>
  bndO (storeQ y2 y1 2 s) fun _ s =>
  k (.mk x0 .top .top x4 y2 .top .top .top .top .top x14 x15 x16 .top .top .top .top .top .top .top .top) s
noncomputable def S26r5 {R : Type} (call : Nat → List AV → M AV) : W26 → Nat → AS → (W26 → AS → Option R) → Option R := @W26.rec (fun _ => Nat → AS → (W26 → AS → Option R) → Option R) fun x0 x2 x3 x4 x6 x8 x9 x10 x11 x13 x14 x15 x16 x17 x27 x30 x31 x32 x33 x46 x68 base s k =>
  bndP (fldA 0 x6) fun y0 =>
  bndP (loadQ false 1 y0 s.h) fun y1 =>
  bndP (binQ .add ((.str [116, 121, 112, 101, 32]) : AV) y1) fun y2 =>
  bndO (call 50 [x4, y2] s) fun y3 s =>
  k (.mk x0 .top .top x4 x6 .top .top .top .top .top x14 x15 x16 .top .top .top .top .top .top .top .top) s
noncomputable def S26r6 {R : Type} (call : Nat → List AV → M AV) : W26 → Nat → AS → (W26 → AS → Option R) → Option R := @W26.rec (fun _ => Nat → AS → (W26 → AS → Option R) → Option R) fun x0 x2 x3 x4 x6 x8 x9 x10 x11 x13 x14 x15 x16 x17 x27 x30 x31 x32 x33 x46 x68 base s k =>
  bndP (fldA 1 x6) fun y0 =>
  bndP (loadQ false 1 y0 s.h) fun y1 =>
  bndP (lenAQ false y1) fun y2 =>
  bndP (binQ .gtr y2 ((.int .i64 0) : AV)) fun y3 =>
  k (.mk x0 .top .top x4 x6 .top .top .top .top .top x14 x15 x16 .top y3 .top .top .top .top .top .top) s
noncomputable def S26r7 {R : Type} (call : Nat → List AV → M AV) : W26 → Nat → AS → (W26 → AS → Option R) → Option R := @W26.rec (fun _ => Nat → AS → (W26 → AS → Option R) → Option R) fun x0 x2 x3 x4 x6 x8 x9 x10 x11 x13 x14 x15 x16 x17 x27 x30 x31 x32 x33 x46 x68 base s k =>
  bndO (call 50 [x4, ((.str [32, 123, 10]) : AV)] s) fun y0 s =>
  k (.mk x0 .top .top x4 x6 .top .top .top .top .top x14 x15 x16 .top .top .top .top .top .top .top .top) s
noncomputable def S26r8 {R : Type} (call : Nat → List AV → M AV) : W26 → Nat → AS → (W26 → AS → Option R) → Option R := @W26.rec (fun _ => Nat → AS → (W26 → AS → Option R) → Option R) fun x0 x2 x3 x4 x6 x8 x9 x10 x11 x13 x14 x15 x16 x17 x27 x30 x31 x32 x33 x46 x68 base s k =>
  bndP (fldA 1 x6) fun y0 =>
  bndP (loadQ false 1 y0 s.h) fun y1 =>
  bndP (lenAQ false y1) fun y2 =>
  k (.mk x0 .top .top x4 .top .top .top .top .top .top x14 x15 x16 .top .top y1 y2 ((.int .i64 0) : AV) .top .top .top) s
noncomputable def S26r9 {R : Type} (call : Nat → List AV → M AV) : W26 → Nat → AS → (W26 → AS → Option R) → Option R := @W26.rec (fun _ => Nat → AS → (W26 → AS → Option R) → Option R) fun x0 x2 x3 x4 x6 x8 x9 x10 x11 x13 x14 x15 x16 x17 x27 x30 x31 x32 x33 x46 x68 base s k =>
  bndP (binQ .lss x32 x31) fun y0 =>
  k (.mk x0 .top .top x4 .top .top .top .top .top .top x14 x15 x16 .top .top x30 x31 x32 y0 .top .top) s
noncomputable def S26r10 {R : Type} (call : Nat → List AV → M AV) : W26 → Nat → AS → (W26 → AS → Option R) → Option R := @W26.rec (fun _ => Nat → AS → (W26 → AS → Option R) → Option R) fun x0 x2 x3 x4 x6 x8 x9 x10 x11 x13 x14 x15 x16 x17 x27 x30 x31 x32 x33 x46 x68 base s k =>
  bndP (idxQ 3 x30 x32) fun y0 =>
  bndP (loadQ true 3 y0 s.h) fun y1 =>
  bndO (newQ (base + 2) (allocB [(.str []), .nils, .nils] (base + 2)) s) fun y2 s =>
  bndO (storeQ y2 y1 3 s) fun _ s =>
  k (.mk x0 .top .top x4 .top y2 .top .top .top .top x14 x15 x16 .top .top x30 x31 x32 .top .top .top) s
noncomputable def S26r11 {R : Type} (call : Nat → List AV → M AV) : W26 → Nat → AS → (W26 → AS → Option R) → Option R := @W26.rec (fun _ => Nat → AS → (W26 → AS → Option R) → Option R) fun x0 x2 x3 x4 x6 x8 x9 x10 x11 x13 x14 x15 x16 x17 x27 x30 x31 x32 x33 x46 x68 base s k =>
  bndP (loadQ true 3 x8 s.h) fun y0 =>
  bndO (quietQ call 51 [y0] s) fun y1 s =>
  bndP (extrQ y1 0) fun y2 =>
  bndP (extrQ y1 1) fun y3 =>
  k (.mk x0 .top .top x4 .top .top y2 y3 .top .top x14 x15 x16 .top .top x30 x31 x32 .top .top .top) s
noncomputable def S26r12 {R : Type} (call : Nat → List AV → M AV) : W26 → Nat → AS → (W26 → AS → Option R) → Option R := @W26.rec (fun _ => Nat → AS → (W26 → AS → Option R) → Option R) fun x0 x2 x3 x4 x6 x8 x9 x10 x11 x13 x14 x15 x16 x17 x27 x30 x31 x32 x33 x46 x68 base s k =>
  bndP (notA x10) fun y0 =>
  bndO (gd (wantG y0 false) (fun s => (quietQ call 52 [x4] s)) s) fun y1 s =>
  bndO (gd (wantG y0 false) (fun s => (pureO (binQ .gtr y1 ((.int .i64 100000) : AV)) s)) s) fun y2 s =>
  bndP (pickA y0 ((.bool true) : AV) y2) fun y3 =>
  k (.mk x0 .top .top x4 .top .top x9 .top .top .top x14 x15 x16 .top .top x30 x31 x32 .top y3 .top) s
noncomputable def S26r13 {R : Type} (call : Nat → List AV → M AV) : W26 → Nat → AS → (W26 → AS → Option R) → Option R := @W26.rec (fun _ => Nat → AS → (W26 → AS → Option R) → Option R) fun x0 x2 x3 x4 x6 x8 x9 x10 x11 x13 x14 x15 x16 x17 x27 x30 x31 x32 x33 x46 x68 base s k =>
  k (.mk .top ((.str []) : AV) ((.bool false) : AV) .top .top .top .top .top .top .top .top .top .top .top .top .top .top .top .top .top .top) s
noncomputable def S26r14 {R : Type} (call : Nat → List AV → M AV) : W26 → Nat → AS → (W26 → AS → Option R) → Option R := @W26.rec (fun _ => Nat → AS → (W26 → AS → Option R) → Option R) fun x0 x2 x3 x4 x6 x8 x9 x10 x11 x13 x14 x15 x16 x17 x27 x30 x31 x32 x33 x46 x68 base s k =>
  bndP (binQ .add ((.str [9]) : AV) x9) fun y0 =>
  bndP (binQ .add y0 ((.str [10]) : AV)) fun y1 =>
  bndO (call 50 [x4, y1] s) fun y2 s =>
  k (.mk x0 .top .top x4 .top .top .top .top .top .top x14 x15 x16 .top .top x30 x31 x32 .top .top .top) s
noncomputable def S26r15 {R : Type} (call : Nat → List AV → M AV) : W26 → Nat → AS → (W26 → AS → Option R) → Option R := @W26.rec (fun _ => Nat → AS → (W26 → AS → Option R) → Option R) fun x0 x2 x3 x4 x6 x8 x9 x10 x11 x13 x14 x15 x16 x17 x27 x30 x31 x32 x33 x46 x68 base s k =>
  bndP (binQ .add x32 ((.int .i64 1) : AV)) fun y0 =>
  k (.mk x0 .top .top x4 .top .top .top .top .top .top x14 x15 x16 .top .top x30 x31 y0 .top .top .top) s
noncomputable def S26b16 {R : Type} (call : Nat → List AV → M AV) (fuel : Nat) : SC W26 W26 R := sSeq (sReg 1 (S26r9 call)) (sSeq (sCond (@W26.rec (fun _ => AV) fun _ _ _ _ _ _ _ _ _ _ _ _ _ _ _ _ _ _ x33 _ _ => x33) (sSkip) (sExit 2)) (sSeq (sBlock 3 (sSeq (sReg 4 (S26r10 call)) (sSeq (sReg 7 (S26r11 call)) (sSeq (sSeq (sReg 6 (S26r12 call)) (sCond (@W26.rec (fun _ => AV) fun _ _ _ _ _ _ _ _ _ _ _ _ _ _ _ _ _ _ _ x46 _ => x46) (sSeq (sReg 2 (S26r13 call)) (sRet)) (sSkip))) (sReg 4 (S26r14 call)))))) (sReg 2 (S26r15 call))))
noncomputable def S26r17 {R : Type} (call : Nat → List AV → M AV) : W26 → Nat → AS → (W26 → AS → Option R) → Option R := @W26.rec (fun _ => Nat → AS → (W26 → AS → Option R) → Option R) fun x0 x2 x3 x4 x6 x8 x9 x10 x11 x13 x14 x15 x16 x17 x27 x30 x31 x32 x33 x46 x68 base s k =>
  bndO (call 50 [x4, ((.str [125]) : AV)] s) fun y0 s =>
  k (.mk x0 .top .top x4 .top .top .top .top .top .top x14 x15 x16 .top .top .top .top .top .top .top .top) s
noncomputable def S26r18 {R : Type} (call : Nat → List AV → M AV) : W26 → Nat → AS → (W26 → AS → Option R) → Option R := @W26.rec (fun _ => Nat → AS → (W26 → AS → Option R) → Option R) fun x0 x2 x3 x4 x6 x8 x9 x10 x11 x13 x14 x15 x16 x17 x27 x30 x31 x32 x33 x46 x68 base s k =>
  bndO (call 50 [x4, ((.str [10]) : AV)] s) fun y0 s =>
  k (.mk x0 .top .top x4 .top .top .top .top .top .top x14 x15 x16 .top .top .top .top .top .top .top .top) s
noncomputable def S26r19 {R : Type} (call : Nat → List AV → M AV) : W26 → Nat → AS → (W26 → AS → Option R) → Option R := @W26.rec (fun _ => Nat → AS → (W26 → AS → Option R) → Option R) fun x0 x2 x3 x4 x6 x8 x9 x10 x11 x13 x14 x15 x16 x17 x27 x30 x31 x32 x33 x46 x68 base s k =>
  bndP (binQ .add x16 ((.int .i64 1) : AV)) fun y0 =>
  k (.mk x0 .top .top x4 .top .top .top .top .top .top x14 x15 y0 .top .top .top .top .top .top .top .top) s
noncomputable def S26b20 {R : Type} (call : Nat → List AV → M AV) (fuel : Nat) : SC W26 W26 R := sSeq (sReg 1 (S26r3 call)) (sSeq (sCond (@W26.rec (fun _ => AV) fun _ _ _ _ _ _ _ _ _ _ _ _ _ x17 _ _ _ _ _ _ _ => x17) (sSkip) (sExit 0)) (sSeq (sBlock 1 (sSeq (sReg 4 (S26r4 call)) (sSeq (sReg 4 (S26r5 call)) (sSeq (sSeq (sReg 4 (S26r6 call)) (sCond (@W26.rec (fun _ => AV) fun _ _ _ _ _ _ _ _ _ _ _ _ _ _ x27 _ _ _ _ _ _ => x27) (sSeq (sReg 1 (S26r7 call)) (sSeq (sSeq (sReg 4 (S26r8 call)) (sBlock 2 (sLoop fuel (S26b16 call fuel)))) (sReg 1 (S26r17 call)))) (sSkip))) (sReg 1 (S26r18 call)))))) (sReg 2 (S26r19 call))))
noncomputable def S26r21 {R : Type} (call : Nat → List AV → M AV) : W26 → Nat → AS → (W26 → AS → Option R) → Option R := @W26.rec (fun _ => Nat → AS → (W26 → AS → Option R) → Option R) fun x0 x2 x3 x4 x6 x8 x9 x10 x11 x13 x14 x15 x16 x17 x27 x30 x31 x32 x33 x46 x68 base s k =>
  bndO (quietQ call 53 [x4] s) fun y0 s =>
  bndO (quietQ call 12 [y0] s) fun y1 s =>
  bndP (extrQ y1 0) fun y2 =>
  bndP (extrQ y1 1) fun y3 =>
  bndP (extrQ y1 2) fun y4 =>
  k (.mk x0 .top .top x4 .top .top .top .top y2 y4 .top .top .top .top .top .top .top .top .top .top .top) s
noncomputable def S26r22 {R : Type} (call : Nat → List AV → M AV) : W26 → Nat → AS → (W26 → AS → Option R) → Option R := @W26.rec (fun _ => Nat → AS → (W26 → AS → Option R) → Option R) fun x0 x2 x3 x4 x6 x8 x9 x10 x11 x13 x14 x15 x16 x17 x27 x30 x31 x32 x33 x46 x68 base s k =>
  bndP (binQ .neq x13 ((.int .i64 0) : AV)) fun y0 =>
  bndO (gd (wantG y0 false) (fun s => (pureO (some x11) s)) s) fun y1 s =>
  bndO (gd (wantG y0 false) (fun s => (pureO (some x0) s)) s) fun y2 s =>
  bndO (gd (wantG y0 false) (fun s => (quietQ call 29 [y1, y2] s)) s) fun y3 s =>
  bndO (gd (wantG y0 false) (fun s => (pureO (notA y3) s)) s) fun y4 s =>
  bndP (pickA y0 ((.bool true) : AV) y4) fun y5 =>
  k (.mk .top .top .top x4 .top .top .top .top .top .top .top .top .top .top .top .top .top .top .top .top y5) s
noncomputable def S26r23 {R : Type} (call : Nat → List AV → M AV) : W26 → Nat → AS → (W26 → AS → Option R) → Option R := @W26.rec (fun _ => Nat → AS → (W26 → AS → Option R) → Option R) fun x0 x2 x3 x4 x6 x8 x9 x10 x11 x13 x14 x15 x16 x17 x27 x30 x31 x32 x33 x46 x68 base s k =>
  k (.mk .top ((.str []) : AV) ((.bool false) : AV) .top .top .top .top .top .top .top .top .top .top .top .top .top .top .top .top .top .top) s
noncomputable def S26r24 {R : Type} (call : Nat → List AV → M AV) : W26 → Nat → AS → (W26 → AS → Option R) → Option R := @W26.rec (fun _ => Nat → AS → (W26 → AS → Option R) → Option R) fun x0 x2 x3 x4 x6 x8 x9 x10 x11 x13 x14 x15 x16 x17 x27 x30 x31 x32 x33 x46 x68 base s k =>
  bndO (quietQ call 53 [x4] s) fun y0 s =>
  k (.mk .top y0 ((.bool true) : AV) .top .top .top .top .top .top .top .top .top .top .top .top .top .top .top .top .top .top) s
noncomputable def S26c {R : Type} (call : Nat → List AV → M AV) (fuel : Nat) : SC V26 W26 R := sSeq (sReg 2 (S26r0 call)) (sSeq (sReg 1 (S26r1 call)) (sSeq (sSeq (sReg 3 (S26r2 call)) (sBlock 0 (sLoop fuel (S26b20 call fuel)))) (sSeq (sReg 9 (S26r21 call)) (sSeq (sSeq (sReg 8 (S26r22 call)) (sCond (@W26.rec (fun _ => AV) fun _ _ _ _ _ _ _ _ _ _ _ _ _ _ _ _ _ _ _ _ x68 => x68) (sSeq (sReg 2 (S26r23 call)) (sRet)) (sSkip))) (sSeq (sReg 3 (S26r24 call)) (sRet))))))
noncomputable def S26e : Ex → W26 → AS → Option (AV × AS) := fun e w s => (@W26.rec (fun _ => Option (AV × AS)) fun _ x2 x3 _ _ _ _ _ _ _ _ _ _ _ _ _ _ _ _ _ _ => @Ex.rec (fun _ => Option (AV × AS)) (some (.tup [x2, x3], s)) (fun _ => none) (some (.tup [x2, x3], s)) e) w
noncomputable def S26 (call : Nat → List AV → M AV) (fuel : Nat) (args : List AV) (s : AS) : Option (AV × AS) := match args with
  | [x0] => S26c call fuel x0 s S26e
  | _ => none
theorem S26_sim (call : Nat → List AV → M AV) (fuel : Nat) : Sim (R := AV × AS) call fuel mi26 mo26 A26.code (S26c call fuel) := by
  refine sim_seq (sim_reg (fun x0 _ _ _ => by kernel_rfl)) (sim_seq (sim_reg (fun ⟨x0, x2, x3, x4, x6, x8, x9, x10, x11, x13, x14, x15, x16, x17, x27, x30, x31, x32, x33, x46, x68⟩ _ _ _ => by kernel_rfl)) (sim_seq (sim_seq (sim_reg (fun ⟨x0, x2, x3, x4, x6, x8, x9, x10, x11, x13, x14, x15, x16, x17, x27, x30, x31, x32, x33, x46, x68⟩ _ _ _ => by kernel_rfl)) (sim_block (sim_loop (sim_seq (sim_reg (fun ⟨x0, x2, x3, x4, x6, x8, x9, x10, x11, x13, x14, x15, x16, x17, x27, x30, x31, x32, x33, x46, x68⟩ _ _ _ => by kernel_rfl)) (sim_seq (sim_cond (fun ⟨x0, x2, x3, x4, x6, x8, x9, x10, x11, x13, x14, x15, x16, x17, x27, x30, x31, x32, x33, x46, x68⟩ => by kernel_rfl) (sim_skip) (sim_exit)) (sim_seq (sim_block (sim_seq (sim_reg (fun ⟨x0, x2, x3, x4, x6, x8, x9, x10, x11, x13, x14, x15, x16, x17, x27, x30, x31, x32, x33, x46, x68⟩ _ _ _ => by kernel_rfl)) (sim_seq (sim_reg (fun ⟨x0, x2, x3, x4, x6, x8, x9, x10, x11, x13, x14, x15, x16, x17, x27, x30, x31, x32, x33, x46, x68⟩ _ _ _ => by kernel_rfl)) (sim_seq (sim_seq (sim_reg (fun ⟨x0, x2, x3, x4, x6, x8, x9, x10, x11, x13, x14, x15, x16, x17, x27, x30, x31, x32, x33, x46, x68⟩ _ _ _ => by kernel_rfl)) (sim_cond (fun ⟨x0, x2, x3, x4, x6, x8, x9, x10, x11, x13, x14, x15, x16, x17, x27, x30, x31, x32, x33, x46, x68⟩ => by kernel_rfl) (sim_seq (sim_reg (fun ⟨x0, x2, x3, x4, x6, x8, x9, x10, x11, x13, x14, x15, x16, x17, x27, x30, x31, x32, x33, x46, x68⟩ _ _ _ => by kernel_rfl)) (sim_seq (sim_seq (sim_reg (fun ⟨x0, x2, x3, x4, x6, x8, x9, x10, x11, x13, x14, x15, x16, x17, x27, x30, x31, x32, x33, x46, x68⟩ _ _ _ => by kernel_rfl)) (sim_block (sim_loop (sim_seq (sim_reg (fun ⟨x0, x2, x3, x4, x6, x8, x9, x10, x11, x13, x14, x15, x16, x17, x27, x30, x31, x32, x33, x46, x68⟩ _ _ _ => by kernel_rfl)) (sim_seq (sim_cond (fun ⟨x0, x2, x3, x4, x6, x8, x9, x10, x11, x13, x14, x15, x16, x17, x27, x30, x31, x32, x33, x46, x68⟩ => by kernel_rfl) (sim_skip) (sim_exit)) (sim_seq (sim_block (sim_seq (sim_reg (fun ⟨x0, x2, x3, x4, x6, x8, x9, x10, x11, x13, x14, x15, x16, x17, x27, x30, x31, x32, x33, x46, x68⟩ _ _ _ => by kernel_rfl)) (sim_seq (sim_reg (fun ⟨x0, x2, x3, x4, x6, x8, x9, x10, x11, x13, x14, x15, x16, x17, x27, x30, x31, x32, x33, x46, x68⟩ _ _ _ => by kernel_rfl)) (sim_seq (sim_seq (sim_reg (fun ⟨x0, x2, x3, x4, x6, x8, x9, x10, x11, x13, x14, x15, x16, x17, x27, x30, x31, x32, x33, x46, x68⟩ _ _ _ => by kernel_rfl)) (sim_cond (fun ⟨x0, x2, x3, x4, x6, x8, x9, x10, x11, x13, x14, x15, x16, x17, x27, x30, x31, x32, x33, x46, x68⟩ => by kernel_rfl) (sim_seq (sim_reg (fun ⟨x0, x2, x3, x4, x6, x8, x9, x10, x11, x13, x14, x15, x16, x17, x27, x30, x31, x32, x33, x46, x68⟩ _ _ _ => by kernel_rfl)) (sim_ret)) (sim_skip))) (sim_reg (fun ⟨x0, x2, x3, x4, x6, x8, x9, x10, x11, x13, x14, x15, x16, x17, x27, x30, x31, x32, x33, x46, x68⟩ _ _ _ => by kernel_rfl)))))) (sim_reg (fun ⟨x0, x2, x3, x4, x6, x8, x9, x10, x11, x13, x14, x15, x16, x17, x27, x30, x31, x32, x33, x46, x68⟩ _ _ _ => by kernel_rfl)))))))) (sim_reg (fun ⟨x0, x2, x3, x4, x6, x8, x9, x10, x11, x13, x14, x15, x16, x17, x27, x30, x31, x32, x33, x46, x68⟩ _ _ _ => by kernel_rfl)))) (sim_skip))) (sim_reg (fun ⟨x0, x2, x3, x4, x6, x8, x9, x10, x11, x13, x14, x15, x16, x17, x27, x30, x31, x32, x33, x46, x68⟩ _ _ _ => by kernel_rfl)))))) (sim_reg (fun ⟨x0, x2, x3, x4, x6, x8, x9, x10, x11, x13, x14, x15, x16, x17, x27, x30, x31, x32, x33, x46, x68⟩ _ _ _ => by kernel_rfl)))))))) (sim_seq (sim_reg (fun ⟨x0, x2, x3, x4, x6, x8, x9, x10, x11, x13, x14, x15, x16, x17, x27, x30, x31, x32, x33, x46, x68⟩ _ _ _ => by kernel_rfl)) (sim_seq (sim_seq (sim_reg (fun ⟨x0, x2, x3, x4, x6, x8, x9, x10, x11, x13, x14, x15, x16, x17, x27, x30, x31, x32, x33, x46, x68⟩ _ _ _ => by kernel_rfl)) (sim_cond (fun ⟨x0, x2, x3, x4, x6, x8, x9, x10, x11, x13, x14, x15, x16, x17, x27, x30, x31, x32, x33, x46, x68⟩ => by kernel_rfl) (sim_seq (sim_reg (fun ⟨x0, x2, x3, x4, x6, x8, x9, x10, x11, x13, x14, x15, x16, x17, x27, x30, x31, x32, x33, x46, x68⟩ _ _ _ => by kernel_rfl)) (sim_ret)) (sim_skip))) (sim_seq (sim_reg (fun ⟨x0, x2, x3, x4, x6, x8, x9, x10, x11, x13, x14, x15, x16, x17, x27, x30, x31, x32, x33, x46, x68⟩ _ _ _ => by kernel_rfl)) (sim_ret))))))
theorem S26_ok (call : Nat → List AV → M AV) (fuel : Nat) (args : List AV) (s : AS) : afn call fuel A26 args s = S26 call fuel args s := by
  rcases args with _ | ⟨x0, _ | ⟨x1, r⟩⟩
  · kernel_rfl
  · exact (afn_sim (S26_sim call fuel) (v := x0) (e2 := S26e) (by kernel_rfl) (by kernel_rfl) (fun e w s => by cases w; cases e <;> kernel_rfl)).trans (by kernel_rfl)
  · kernel_rfl
def A27 : AFn := { nargs := 1, ntmps := 46, res := [.tmp 2, .tmp 3, .tmp 4], code := .seq (.ops [⟨0, (some 2), none, .p (.mv (.const (.nils))), []⟩, ⟨1, (some 3), none, .p (.mv (.const (.int .i64 0))), []⟩, ⟨2, (some 4), none, .p (.mv (.const (.int .i64 0))), []⟩] 3 [0]) (.seq (.seq (.ops [⟨0, (some 9), none, .p (.mv (.tmp 0)), []⟩, ⟨1, (some 10), none, .p (.lenS true (.tmp 9)), []⟩, ⟨2, (some 11), none, .p (.bin .gtr (.tmp 10) (.const (.int .i64 100000))), []⟩] 3 [0, 11]) (.cond (.tmp 11) (.seq (.ops [⟨0, (some 2), none, .p (.mv (.const (.nils))), []⟩, ⟨1, (some 3), none, .p (.mv (.const (.int .i64 0))), []⟩, ⟨2, (some 4), none, .p (.mv (.const (.int .i64 8))), []⟩] 3 [2, 3, 4]) (.ret)) (.skip))) (.seq (.ops [⟨0, (some 5), none, .p (.mv (.const (.nils))), []⟩] 1 [0, 5]) (.seq (.seq (.ops [⟨0, (some 12), none, .p (.mv (.tmp 0)), []⟩, ⟨1, (some 13), none, .e (.call true 54 [.tmp 12]), []⟩, ⟨2, (some 6), none, .p (.mv (.tmp 13)), []⟩] 3 [0, 5, 6]) (.block 0 (.loop (.seq (.seq (.ops [⟨0, (some 14), none, .p (.mv (.tmp 6)), []⟩, ⟨1, (some 15), none, .p (.mv (.tmp 0)), []⟩, ⟨2, (some 16), none, .p (.lenS true (.tmp 15)), []⟩, ⟨3, (some 17), none, .p (.bin .lss (.tmp 14) (.tmp 16)), []⟩] 4 [0, 5, 6, 17]) (.cond (.tmp 17) (.skip) (.exit 0))) (.seq (.block 1 (.seq (.ops [⟨0, (some 25), none, .p (.mv (.tmp 0)), []⟩, ⟨1, (some 26), none, .p (.mv (.tmp 6)), []⟩, ⟨2, (some 27), none, .p (.cuts (.tmp 25) (some (.tmp 26)) none), []⟩, ⟨3, (some 28), none, .e (.call true 55 [.tmp 27]), []⟩, ⟨4, (some 24), none, .p (.mv (.tmp 28)), []⟩, ⟨5, (some 29), none, .p (.extract (.tmp 24) 0), []⟩, ⟨6, (some 30), none, .p (.extract (.tmp 24) 1), []⟩, ⟨7, (some 7), none, .l (.alloc [.int .i64 0, .int .i64 0, .str []]), []⟩, ⟨8, none, none, .e (.store (.tmp 7) (.tmp 29) 3), []⟩, ⟨9, (some 8), none, .p (.mv (.tmp 30)), []⟩] 10 [0, 5, 6, 7, 8]) (.seq (.seq (.ops [⟨0, (some 31), none, .p (.mv (.tmp 8)), []⟩, ⟨1, (some 32), none, .p (.notb (.tmp 31)), []⟩] 2 [0, 5, 6, 7, 32]) (.cond (.tmp 32) (.seq (.ops [⟨0, (some 33), none, .p (.mv (.tmp 6)), []⟩, ⟨1, (some 2), none, .p (.mv (.const (.nils))), []⟩, ⟨2, (some 3), none, .p (.mv (.tmp 33)), []⟩, ⟨3, (some 4), none, .p (.mv (.const (.int .i64 7))), []⟩] 4 [2, 3, 4]) (.ret)) (.skip))) (.seq (.ops [⟨0, (some 34), none, .p (.mv (.tmp 6)), []⟩, ⟨1, (some 35), none, .p (.fld 1 (.tmp 7)), []⟩, ⟨2, none, none, .e (.store (.tmp 35) (.tmp 34) 1), []⟩] 3 [0, 5, 6, 7]) (.seq (.ops [⟨0, (some 36), none, .p (.mv (.tmp 5)), []⟩, ⟨1, (some 37), none, .r (.load true 3 (.tmp 7)), []⟩, ⟨2, (some 38), none, .k { z := [.int .i64 0, .int .i64 0, .str []], len := 1, parts := [(0, .tmp 37)] }, []⟩, ⟨3, (some 39), none, .e (.append 3 32 (.tmp 36) (.tmp 38)), []⟩, ⟨4, (some 5), none, .p (.mv (.tmp 39)), []⟩] 5 [0, 5, 6, 7]) (.ops [⟨0, (some 40), none, .p (.mv (.tmp 6)), []⟩, ⟨1, (some 41), none, .p (.fld 2 (.tmp 7)), []⟩, ⟨2, (some 42), none, .r (.load false 1 (.tmp 41)), []⟩, ⟨3, (some 43), none, .p (.lenS true (.tmp 42)), []⟩, ⟨4, (some 44), none, .p (.bin .add (.tmp 40) (.tmp 43)), []⟩, ⟨5, (some 6), none, .p (.mv (.tmp 44)), []⟩] 6 [0, 5, 6])))))) (.ops [⟨0, (some 18), none, .p (.mv (.tmp 6)), []⟩, ⟨1, (some 19), none, .p (.mv (.tmp 0)), []⟩, ⟨2, (some 20), none, .p (.mv (.tmp 6)), []⟩, ⟨3, (some 21), none, .p (.cuts (.tmp 19) (some (.tmp 20)) none), []⟩, ⟨4, (some 22), none, .e (.call true 54 [.tmp 21]), []⟩, ⟨5, (some 23), none, .p (.bin .add (.tmp 18) (.tmp 22)), []⟩, ⟨6, (some 6), none, .p (.mv (.tmp 23)), []⟩] 7 [0, 5, 6])))))) (.seq (.ops [⟨0, (some 45), none, .p (.mv (.tmp 5)), []⟩, ⟨1, (some 2), none, .p (.mv (.tmp 45)), []⟩, ⟨2, (some 3), none, .p (.mv (.const (.int .i64 0))), []⟩, ⟨3, (some 4), none, .p (.mv (.const (.int .i64 0))), []⟩] 4 [2, 3, 4]) (.ret))))) }
def N27 : Notes := { note := fun _ => none, keep := fun | 13 => [2, 3, 4] | 6 => [0, 5, 6] | 12 => [0, 5, 6] | 11 => [0, 5, 6, 7] | 10 => [0, 5, 6, 7] | 9 => [2, 3, 4] | 8 => [0, 5, 6, 7, 32] | 7 => [0, 5, 6, 7, 8] | 5 => [0, 5, 6, 17] | 4 => [0, 5, 6] | 3 => [0, 5] | 2 => [2, 3, 4] | 1 => [0, 11] | 0 => [0] | _ => [] }
theorem A27_ok : cFn Try.prog qf N27 Try.f27 = some A27 := by kernel_rfl
inductive W27 where
  | mk (x0 x2 x3 x4 x5 x6 x7 x8 x11 x17 x32 : AV)
abbrev V27 := AV
def mo27 : W27 → Fr := fun ⟨x0, x2, x3, x4, x5, x6, x7, x8, x11, x17, x32⟩ => [x0, .top, x2, x3, x4, x5, x6, x7, x8, .top, .top, x11, .top, .top, .top, .top, .top, x17, .top, .top, .top, .top, .top, .top, .top, .top, .top, .top, .top, .top, .top, .top, x32, .top, .top, .top, .top, .top, .top, .top, .top, .top, .top, .top, .top, .top]
def mi27 : V27 → Fr := fun x0 => [x0, .tup [], .tup [], .tup [], .tup [], .tup [], .tup [], .tup [], .tup [], .tup [], .tup [], .tup [], .tup [], .tup [], .tup [], .tup [], .tup [], .tup [], .tup [], .tup [], .tup [], .tup [], .tup [], .tup [], .tup [], .tup [], .tup [], .tup [], .tup [], .tup [], .tup [], .tup [], .tup [], .tup [], .tup [], .tup [], .tup [], .tup [], .tup [], .tup [], .tup [], .tup [], .tup [], .tup [], .tup [], .tup []]
noncomputable def S27r0 {R : Type} (call : Nat → List AV → M AV) : V27 → Nat → AS → (W27 → AS → Option R) → Option R := fun x0 base s k =>
  k (.mk x0 .top .top .top .top .top .top .top .top .top .top) s
noncomputable def S27r1 {R : Type} (call : Nat → List AV → M AV) : W27 → Nat → AS → (W27 → AS → Option R) → Option R := @W27.rec (fun _ => Nat → AS → (W27 → AS → Option R) → Option R) fun x0 x2 x3 x4 x5 x6 x7 x8 x11 x17 x32 base s k =>
  bndP (lenAQ true x0) fun y0 =>
  bndP (binQ .gtr y0 ((.int .i64 100000) : AV)) fun y1 =>
  k (.mk x0 .top .top .top .top .top .top .top y1 .top .top) s
noncomputable def S27r2 {R : Type} (call : Nat → List AV → M AV) : W27 → Nat → AS → (W27 → AS → Option R) → Option R := @W27.rec (fun _ => Nat → AS → (W27 → AS → Option R) → Option R) fun x0 x2 x3 x4 x5 x6 x7 x8 x11 x17 x32 base s k =>
  k (.mk .top (.nils : AV) ((.int .i64 0) : AV) ((.int .i64 8) : AV) .top .top .top .top .top .top .top) s
noncomputable def S27r3 {R : Type} (call : Nat → List AV → M AV) : W27 → Nat → AS → (W27 → AS → Option R) → Option R := @W27.rec (fun _ => Nat → AS → (W27 → AS → Option R) → Option R) fun x0 x2 x3 x4 x5 x6 x7 x8 x11 x17 x32 base s k =>
  k (.mk x0 .top .top .top (.nils : AV) .top .top .top .top .top .top) s
noncomputable def S27r4 {R : Type} (call : Nat → List AV → M AV) : W27 → Nat → AS → (W27 → AS → Option R) → Option R := @W27.rec (fun _ => Nat → AS → (W27 → AS → Option R) → Option R) fun x0 x2 x3 x4 x5 x6 x7 x8 x11 x17 x32 base s k =>
  bndO (quietQ call 54 [x0] s) fun y0 s =>
  k (.mk x0 .top .top .top x5 y0 .top .top .top .top .top) s
noncomputable def S27r5 {R : Type} (call : Nat → List AV → M AV) : W27 → Nat → AS → (W27 → AS → Option R) → Option R := @W27.rec (fun _ => Nat → AS → (W27 → AS → Option R) → Option R) fun x0 x2 x3 x4 x5 x6 x7 x8 x11 x17 x32 base s k =>
  bndP (lenAQ true x0) fun y0 =>
  bndP (binQ .lss x6 y0) fun y1 =>
  k (.mk x0 .top .top .top x5 x6 .top .top .top y1 .top) s
noncomputable def S27r6 {R : Type} (call : Nat → List AV → M AV) : W27 → Nat → AS → (W27 → AS → Option R) → Option R := @W27.rec (fun _ => Nat → AS → (W27 → AS → Option R) → Option R) fun x0 x2 x3 x4 x5 x6 x7 x8 x11 x17 x32 base s k =>
  bndP (cutsQ x0 (some x6) none) fun y0 =>
  bndO (quietQ call 55 [y0] s) fun y1 s =>
  bndP (extrQ y1 0) fun y2 =>
  bndP (extrQ y1 1) fun y3 =>
  bndO (newQ (base + 7) (allocB [(.int .i64 0), (.int .i64 0), (.str [])] (base + 7)) s) fun y4 s =>
  bndO (storeQ y4 y2 3 s) fun _ s =>
  k (.mk x0 .top .top .top x5 x6 y4 y3 .top .top .top) s
noncomputable def S27r7 {R : Type} (call : Nat → List AV → M AV) : W27 → Nat → AS → (W27 → AS → Option R) → Option R := @W27.rec (fun _ => Nat → AS → (W27 → AS → Option R) → Option R) fun x0 x2 x3 x4 x5 x6 x7 x8 x11 x17 x32 base s k =>
  bndP (notA x8) fun y0 =>
  k (.mk x0 .top .top .top x5 x6 x7 .top .top .top y0) s
noncomputable def S27r8 {R : Type} (call : Nat → List AV → M AV) : W27 → Nat → AS → (W27 → AS → Option R) → Option R := @W27.rec (fun _ => Nat → AS → (W27 → AS → Option R) → Option R) fun x0 x2 x3 x4 x5 x6 x7 x8 x11 x17 x32 base s k =>
  k (.mk .top (.nils : AV) x6 ((.int .i64 7) : AV) .top .top .top .top .top .top .top) s
noncomputable def S27r9 {R : Type} (call : Nat → List AV → M AV) : W27 → Nat → AS → (W27 → AS → Option R) → Option R := @W27.rec (fun _ => Nat → AS → (W27 → AS → Option R) → Option R) fun x0 x2 x3 x4 x5 x6 x7 x8 x11 x17 x32 base s k =>
  bndP (fldA 1 x7) fun y0 =>
  bndO (storeQ y0 x6 1 s) fun _ s =>
  k (.mk x0 .top .top .top x5 x6 x7 .top .top .top .top) s
noncomputable def S27r10 {R : Type} (call : Nat → List AV → M AV) : W27 → Nat → AS → (W27 → AS → Option R) → Option R := @W27.rec (fun _ => Nat → AS → (W27 → AS → Option R) → Option R) fun x0 x2 x3 x4 x5 x6 x7 x8 x11 x17 x32 base s k =>
  bndP (loadQ true 3 x7 s.h) fun y0 =>
  bndP (rowsA [(.int .i64 0), (.int .i64 0), (.str [])] 1 [(0, y0)]) fun y1 =>
  bndO (appQ (base + 3) 3 32 x5 y1 s) fun y2 s =>
  k (.mk x0 .top .top .top y2 x6 x7 .top .top .top .top) s
noncomputable def S27r11 {R : Type} (call : Nat → List AV → M AV) : W27 → Nat → AS → (W27 → AS → Option R) → Option R := @W27.rec (fun _ => Nat → AS → (W27 → AS → Option R) → Option R) fun x0 x2 x3 x4 x5 x6 x7 x8 x11 x17 x32 base s k =>
  bndP (fldA 2 x7) fun y0 =>
  bndP (loadQ false 1 y0 s.h) fun y1 =>
  bndP (lenAQ true y1) fun y2 =>
  bndP (binQ .add x6 y2) fun y3 =>
  k (.mk x0 .top .top .top x5 y3 .top .top .top .top .top) s
noncomputable def S27r12 {R : Type} (call : Nat → List AV → M AV) : W27 → Nat → AS → (W27 → AS → Option R) → Option R := @W27.rec (fun _ => Nat → AS → (W27 → AS → Option R) → Option R) fun x0 x2 x3 x4 x5 x6 x7 x8 x11 x17 x32 base s k =>
  bndP (cutsQ x0 (some x6) none) fun y0 =>
  bndO (quietQ call 54 [y0] s) fun y1 s =>
  bndP (binQ .add x6 y1) fun y2 =>
  k (.mk x0 .top .top .top x5 y2 .top .top .top .top .top) s
noncomputable def S27b13 {R : Type} (call : Nat → List AV → M AV) (fuel : Nat) : SC W27 W27 R := sSeq (sSeq (sReg 4 (S27r5 call)) (sCond (@W27.rec (fun _ => AV) fun _ _ _ _ _ _ _ _ _ x17 _ => x17) (sSkip) (sExit 0))) (sSeq (sBlock 1 (sSeq (sReg 10 (S27r6 call)) (sSeq (sSeq (sReg 2 (S27r7 call)) (sCond (@W27.rec (fun _ => AV) fun _ _ _ _ _ _ _ _ _ _ x32 => x32) (sSeq (sReg 4 (S27r8 call)) (sRet)) (sSkip))) (sSeq (sReg 3 (S27r9 call)) (sSeq (sReg 5 (S27r10 call)) (sReg 6 (S27r11 call))))))) (sReg 7 (S27r12 call)))
noncomputable def S27r14 {R : Type} (call : Nat → List AV → M AV) : W27 → Nat → AS → (W27 → AS → Option R) → Option R := @W27.rec (fun _ => Nat → AS → (W27 → AS → Option R) → Option R) fun x0 x2 x3 x4 x5 x6 x7 x8 x11 x17 x32 base s k =>
  k (.mk .top x5 ((.int .i64 0) : AV) ((.int .i64 0) : AV) .top .top .top .top .top .top .top) s
noncomputable def S27c {R : Type} (call : Nat → List AV → M AV) (fuel : Nat) : SC V27 W27 R := sSeq (sReg 3 (S27r0 call)) (sSeq (sSeq (sReg 3 (S27r1 call)) (sCond (@W27.rec (fun _ => AV) fun _ _ _ _ _ _ _ _ x11 _ _ => x11) (sSeq (sReg 3 (S27r2 call)) (sRet)) (sSkip))) (sSeq (sReg 1 (S27r3 call)) (sSeq (sSeq (sReg 3 (S27r4 call)) (sBlock 0 (sLoop fuel (S27b13 call fuel)))) (sSeq (sReg 4 (S27r14 call)) (sRet)))))
noncomputable def S27e : Ex → W27 → AS → Option (AV × AS) := fun e w s => (@W27.rec (fun _ => Option (AV × AS)) fun _ x2 x3 x4 _ _ _ _ _ _ _ => @Ex.rec (fun _ => Option (AV × AS)) (some (.tup [x2, x3, x4], s)) (fun _ => none) (some (.tup [x2, x3, x4], s)) e) w
noncomputable def S27 (call : Nat → List AV → M AV) (fuel : Nat) (args : List AV) (s : AS) : Option (AV × AS) := match args with
  | [x0] => S27c call fuel x0 s S27e
  | _ => none
theorem S27_sim (call : Nat → List AV → M AV) (fuel : Nat) : Sim (R := AV × AS) call fuel mi27 mo27 A27.code (S27c call fuel) := by
  refine sim_seq (sim_reg (fun x0 _ _ _ => by kernel_rfl)) (sim_seq (sim_seq (sim_reg (fun ⟨x0, x2, x3, x4, x5, x6, x7, x8, x11, x17, x32⟩ _ _ _ => by kernel_rfl)) (sim_cond (fun ⟨x0, x2, x3, x4, x5, x6, x7, x8, x11, x17, x32⟩ => by kernel_rfl) (sim_seq (sim_reg (fun ⟨x0, x2, x3, x4, x5, x6, x7, x8, x11, x17, x32⟩ _ _ _ => by kernel_rfl)) (sim_ret)) (sim_skip))) (sim_seq (sim_reg (fun ⟨x0, x2, x3, x4, x5, x6, x7, x8, x11, x17, x32⟩ _ _ _ => by kernel_rfl)) (sim_seq (sim_seq (sim_reg (fun ⟨x0, x2, x3, x4, x5, x6, x7, x8, x11, x17, x32⟩ _ _ _ => by kernel_rfl)) (sim_block (sim_loop (sim_seq (sim_seq (sim_reg (fun ⟨x0, x2, x3, x4, x5, x6, x7, x8, x11, x17, x32⟩ _ _ _ => by kernel_rfl)) (sim_cond (fun ⟨x0, x2, x3, x4, x5, x6, x7, x8, x11, x17, x32⟩ => by kernel_rfl) (sim_skip) (sim_exit))) (sim_seq (sim_block (sim_seq (sim_reg (fun ⟨x0, x2, x3, x4, x5, x6, x7, x8, x11, x17, x32⟩ _ _ _ => by kernel_rfl)) (sim_seq (sim_seq (sim_reg (fun ⟨x0, x2, x3, x4, x5, x6, x7, x8, x11, x17, x32⟩ _ _ _ => by kernel_rfl)) (sim_cond (fun ⟨x0, x2, x3, x4, x5, x6, x7, x8, x11, x17, x32⟩ => by kernel_rfl) (sim_seq (sim_reg (fun ⟨x0, x2, x3, x4, x5, x6, x7, x8, x11, x17, x32⟩ _ _ _ => by kernel_rfl)) (sim_ret)) (sim_skip))) (sim_seq (sim_reg (fun ⟨x0, x2, x3, x4, x5, x6, x7, x8, x11, x17, x32⟩ _ _ _ => by kernel_rfl)) (sim_seq (sim_reg (fun ⟨x0, x2, x3, x4, x5, x6, x7, x8, x11, x17, x32⟩ _ _ _ => by kernel_rfl)) (sim_reg (fun ⟨x0, x2, x3, x4, x5, x6, x7, x8, x11, x17, x32⟩ _ _ _ => by kernel_rfl))))))) (sim_reg (fun ⟨x0, x2, x3, x4, x5, x6, x7, x8, x11, x17, x32⟩ _ _ _ => by kernel_rfl))))))) (sim_seq (sim_reg (fun ⟨x0, x2, x3, x4, x5, x6, x7, x8, x11, x17, x32⟩ _ _ _ => by kernel_rfl)) (sim_ret)))))
theorem S27_ok (call : Nat → List AV → M AV) (fuel : Nat) (args : List AV) (s : AS) : afn call fuel A27 args s = S27 call fuel args s := by
  rcases args with _ | ⟨x0, _ | ⟨x1, r⟩⟩
  · kernel_rfl
  · exact (afn_sim (S27_sim call fuel) (v := x0) (e2 := S27e) (by kernel_rfl) (by kernel_rfl) (fun e w s => by cases w; cases e <;> kernel_rfl)).trans (by kernel_rfl)
  · kernel_rfl
def A28 : AFn := { nargs := 2, ntmps := 43, res := [.cell 4 true 2, .tmp 5], code := .seq (.ops [⟨0, (some 4), none, .l (.alloc [.str [], .nils]), []⟩, ⟨1, (some 5), none, .p (.mv (.const (.bool false))), []⟩] 2 [0, 1, 4]) (.seq (.ops [⟨0, (some 6), none, .l (.alloc [.str [], .nils]), []⟩] 1 [0, 1, 4, 6]) (.seq (.seq (.ops [⟨0, (some 7), none, .p (.mv (.tmp 0)), []⟩, ⟨1, (some 8), none, .p (.mv (.tmp 1)), []⟩, ⟨2, (some 9), none, .e (.call false 56 [.tmp 7, .tmp 8, .const (.int .i64 200)]), []⟩, ⟨3, (some 10), none, .p (.notb (.tmp 9)), []⟩] 4 [0, 4, 6, 10]) (.cond (.tmp 10) (.seq (.ops [⟨0, (some 11), none, .r (.load true 2 (.tmp 6)), []⟩, ⟨1, none, none, .e (.store (.tmp 4) (.tmp 11) 2), []⟩, ⟨2, (some 5), none, .p (.mv (.const (.bool false))), []⟩] 3 [4, 5]) (.ret)) (.skip))) (.seq (.seq (.ops [⟨0, (some 12), none, .p (.mv (.tmp 0)), []⟩, ⟨1, (some 13), none, .e (.call true 57 [.tmp 12]), []⟩, ⟨2, (some 14), none, .p (.notb (.tmp 13)), []⟩] 3 [0, 4, 6, 14]) (.cond (.tmp 14) (.seq (.ops [⟨1, (some 16), none, .p (.mv (.tmp 0)), []⟩, ⟨0, (some 15), none, .r (.load true 2 (.tmp 6)), []⟩, ⟨2, (some 17), none, .e (.call false 58 [.tmp 16, .const (.int .i64 9)]), [(none, (.load true 2 (.tmp 6)))]⟩, ⟨3, none, none, .e (.store (.tmp 4) (.tmp 15) 2), []⟩, ⟨4, (some 5), none, .p (.mv (.tmp 17)), []⟩] 5 [4, 5]) (.ret)) (.skip))) (.seq (.ops [⟨0, (some 18), none, .p (.mv (.tmp 0)), []⟩, ⟨1, (some 19), none, .p (.mv (.tmp 0)), []⟩, ⟨2, (some 20), none, .p (.nilchk (.tmp 19)), []⟩, ⟨3, (some 21), none, .p (.fld 0 (.tmp 20)), []⟩, ⟨4, (some 22), none, .r (.load false 1 (.tmp 21)), []⟩, ⟨5, (some 23), none, .p (.cut 3 (.tmp 22) (some (.const (.int .i64 1))) none none), []⟩, ⟨6, (some 24), none, .p (.nilchk (.tmp 18)), []⟩, ⟨7, (some 25), none, .p (.fld 0 (.tmp 24)), []⟩, ⟨8, none, none, .e (.store (.tmp 25) (.tmp 23) 1), []⟩] 9 [0, 4, 6]) (.seq (.seq (.ops [⟨0, (some 26), none, .p (.mv (.tmp 0)), []⟩, ⟨1, (some 27), none, .p (.fld 0 (.tmp 6)), []⟩, ⟨2, (some 28), none, .e (.call false 59 [.tmp 26, .tmp 27]), []⟩, ⟨3, (some 29), none, .p (.notb (.tmp 28)), []⟩] 4 [0, 4, 6, 29]) (.cond (.tmp 29) (.seq (.ops [⟨0, (some 30), none, .r (.load true 2 (.tmp 6)), []⟩, ⟨1, none, none, .e (.store (.tmp 4) (.tmp 30) 2), []⟩, ⟨2, (some 5), none, .p (.mv (.const (.bool false))), []⟩] 3 [4, 5]) (.ret)) (.skip))) (.seq (.seq (.ops [⟨0, (some 31), none, .p (.mv (.tmp 0)), []⟩, ⟨1, (some 32), none, .e (.call false 60 [.tmp 31, .const (.str [123])]), []⟩, ⟨2, (some 33), none, .p (.notb (.tmp 32)), []⟩] 3 [0, 4, 6, 33]) (.cond (.tmp 33) (.seq (.ops [⟨0, (some 34), none, .r (.load true 2 (.tmp 6)), []⟩, ⟨1, none, none, .e (.store (.tmp 4) (.tmp 34) 2), []⟩, ⟨2, (some 5), none, .p (.mv (.const (.bool true))), []⟩] 3 [4, 5]) (.ret)) (.skip))) (.seq (.block 0 (.loop (.seq (.seq (.ops [⟨0, (some 35), none, .p (.mv (.tmp 0)), []⟩, ⟨1, (some 36), none, .e (.call false 60 [.tmp 35, .const (.str [125])]), []⟩, ⟨2, (some 37), none, .p (.notb (.tmp 36)), []⟩] 3 [0, 4, 6, 37]) (.cond (.tmp 37) (.skip) (.exit 0))) (.block 1 (.seq (.ops [⟨0, (some 38), none, .p (.mv (.tmp 0)), []⟩, ⟨1, (some 39), none, .e (.call false 61 [.tmp 38, .tmp 6]), []⟩, ⟨2, (some 40), none, .p (.notb (.tmp 39)), []⟩] 3 [0, 4, 6, 40]) (.cond (.tmp 40) (.seq (.ops [⟨0, (some 41), none, .r (.load true 2 (.tmp 6)), []⟩, ⟨1, none, none, .e (.store (.tmp 4) (.tmp 41) 2), []⟩, ⟨2, (some 5), none, .p (.mv (.const (.bool false))), []⟩] 3 [4, 5]) (.ret)) (.skip))))))) (.seq (.ops [⟨0, (some 42), none, .r (.load true 2 (.tmp 6)), []⟩, ⟨1, none, none, .e (.store (.tmp 4) (.tmp 42) 2), []⟩, ⟨2, (some 5), none, .p (.mv (.const (.bool true))), []⟩] 3 [4, 5]) (.ret))))))))) }
def N28 : Notes := { note := fun | 5 => some ⟨[1, 0, 2, 3, 4], [0, 0, 2, 7, 15], [[], [], [0], [], []]⟩ | _ => none, keep := fun | 14 => [4, 5] | 13 => [4, 5] | 12 => [0, 4, 6, 40] | 11 => [0, 4, 6, 37] | 10 => [4, 5] | 9 => [0, 4, 6, 33] | 8 => [4, 5] | 7 => [0, 4, 6, 29] | 6 => [0, 4, 6] | 5 => [4, 5] | 4 => [0, 4, 6, 14] | 3 => [4, 5] | 2 => [0, 4, 6, 10] | 1 => [0, 1, 4, 6] | 0 => [0, 1, 4] | _ => [] }
theorem A28_ok : cFn Try.prog qf N28 Try.f28 = some A28 := by kernel_rfl
inductive W28 where
  | mk (x0 x1 x4 x5 x6 x10 x14 x29 x33 x37 x40 : AV)
inductive V28 where
  | mk (x0 x1 : AV)
def mo28 : W28 → Fr := fun ⟨x0, x1, x4, x5, x6, x10, x14, x29, x33, x37, x40⟩ => [x0, x1, .top, .top, x4, x5, x6, .top, .top, .top, x10, .top, .top, .top, x14, .top, .top, .top, .top, .top, .top, .top, .top, .top, .top, .top, .top, .top, .top, x29, .top, .top, .top, x33, .top, .top, .top, x37, .top, .top, x40, .top, .top]
def mi28 : V28 → Fr := fun ⟨x0, x1⟩ => [x0, x1, .tup [], .tup [], .tup [], .tup [], .tup [], .tup [], .tup [], .tup [], .tup [], .tup [], .tup [], .tup [], .tup [], .tup [], .tup [], .tup [], .tup [], .tup [], .tup [], .tup [], .tup [], .tup [], .tup [], .tup [], .tup [], .tup [], .tup [], .tup [], .tup [], .tup [], .tup [], .tup [], .tup [], .tup [], .tup [], .tup [], .tup [], .tup [], .tup [], .tup [], .tup []]
noncomputable def S28r0 {R : Type} (call : Nat → List AV → M AV) : V28 → Nat → AS → (W28 → AS → Option R) → Option R := @V28.rec (fun _ => Nat → AS → (W28 → AS → Option R) → Option R) fun x0 x1 base s k =>
  bndO (newQ (base + 0) (allocB [(.str []), .nils] (base + 0)) s) fun y0 s =>
  k (.mk x0 x1 y0 .top .top .top .top .top .top .top .top) s
noncomputable def S28r1 {R : Type} (call : Nat → List AV → M AV) : W28 → Nat → AS → (W28 → AS → Option R) → Option R := @W28.rec (fun _ => Nat → AS → (W28 → AS → Option R) → Option R) fun x0 x1 x4 x5 x6 x10 x14 x29 x33 x37 x40 base s k =>
  bndO (newQ (base + 0) (allocB [(.str []), .nils] (base + 0)) s) fun y0 s =>
  k (.mk x0 x1 x4 .top y0 .top .top .top .top .top .top) s
noncomputable def S28r2 {R : Type} (call : Nat → List AV → M AV) : W28 → Nat → AS → (W28 → AS → Option R) → Option R := @W28.rec (fun _ => Nat → AS → (W28 → AS → Option R) → Option R) fun x0 x1 x4 x5 x6 x10 x14 x29 x33 x37 x40 base s k =>
  bndO (call 56 [x0, x1, ((.int .i64 200) : AV)] s) fun y0 s =>
  bndP (notA y0) fun y1 =>
  k (.mk x0 .top x4 .top x6 y1 .top .top .top .top .top) s
noncomputable def S28r3 {R : Type} (call : Nat → List AV → M AV) : W28 → Nat → AS → (W28 → AS → Option R) → Option R := @W28.rec (fun _ => Nat → AS → (W28 → AS → Option R) → Option R) fun x0 x1 x4 x5 x6 x10 x14 x29 x33 x37 x40 base s k =>
  bndP (loadQ true 2 x6 s.h) fun y0 =>
  bndO (storeQ x4 y0 2 s) fun _ s =>
  k (.mk .top .top x4 ((.bool false) : AV) .top .top .top .top .top .top .top) s
noncomputable def S28r4 {R : Type} (call : Nat → List AV → M AV) : W28 → Nat → AS → (W28 → AS → Option R) → Option R := @W28.rec (fun _ => Nat → AS → (W28 → AS → Option R) → Option R) fun x0 x1 x4 x5 x6 x10 x14 x29 x33 x37 x40 base s k =>
  bndO (quietQ call 57 [x0] s) fun y0 s =>
  bndP (notA y0) fun y1 =>
  k (.mk x0 .top x4 .top x6 .top y1 .top .top .top .top) s
noncomputable def S28r5 {R : Type} (call : Nat → List AV → M AV) : W28 → Nat → AS → (W28 → AS → Option R) → Option R := @W28.rec (fun _ => Nat → AS → (W28 → AS → Option R) → Option R) fun x0 x1 x4 x5 x6 x10 x14 x29 x33 x37 x40 base s k =>
  bndP (loadQ true 2 x6 s.h) fun y0 =>
  bndO (ckd (fun h h' => (rcS (some true) (fun h => (loadA true 2 x6 h)) h h' && true)) (fun s => (call 58 [x0, ((.int .i64 9) : AV)] s)) s) fun y1 s =>
  bndO (storeQ x4 y0 2 s) fun _ s =>
  k (.mk .top .top x4 y1 .top .top .top .top .top .top .top) s
noncomputable def S28r6 {R : Type} (call : Nat → List AV → M AV) : W28 → Nat → AS → (W28 → AS → Option R) → Option R := @W28.rec (fun _ => Nat → AS → (W28 → AS → Option R) → Option R) fun x0 x1 x4 x5 x6 x10 x14 x29 x33 x37 x40 base s k =>
  bndP (nilchkA x0) fun y0 =>
  bndP (fldA 0 y0) fun y1 =>
  bndP (loadQ false 1 y1 s.h) fun y2 =>
  bndP (strN (cutV 3 y2 (some ((.int .i64 1) : AV)) none none)) fun y3 =>
  bndP (nilchkA x0) fun y4 =>
  bndP (fldA 0 y4) fun y5 =>
  bndO (storeQ y5 y3 1 s) fun _ s =>
  k (.mk x0 .top x4 .top x6 .top .top .top .top .top .top) s
noncomputable def S28r7 {R : Type} (call : Nat → List AV → M AV) : W28 → Nat → AS → (W28 → AS → Option R) → Option R := @W28.rec (fun _ => Nat → AS → (W28 → AS → Option R) → Option R) fun x0 x1 x4 x5 x6 x10 x14 x29 x33 x37 x40 base s k =>
  bndP (fldA 0 x6) fun y0 =>
  bndO (call 59 [x0, y0] s) fun y1 s =>
  bndP (notA y1) fun y2 =>
  k (.mk x0 .top x4 .top x6 .top .top y2 .top .top .top) s
noncomputable def S28r8 {R : Type} (call : Nat → List AV → M AV) : W28 → Nat → AS → (W28 → AS → Option R) → Option R := @W28.rec (fun _ => Nat → AS → (W28 → AS → Option R) → Option R) fun x0 x1 x4 x5 x6 x10 x14 x29 x33 x37 x40 base s k =>
  bndP (loadQ true 2 x6 s.h) fun y0 =>
  bndO (storeQ x4 y0 2 s) fun _ s =>
  k (.mk .top .top x4 ((.bool false) : AV) .top .top .top .top .top .top .top) s
noncomputable def S28r9 {R : Type} (call : Nat → List AV → M AV) : W28 → Nat → AS → (W28 → AS → Option R) → Option R := @W28.rec (fun _ => Nat → AS → (W28 → AS → Option R) → Option R) fun x0 x1 x4 x5 x6 x10 x14 x29 x33 x37 x40 base s k =>
  bndO (call 60 [x0, ((.str [123]) : AV)] s) fun y0 s =>
  bndP (notA y0) fun y1 =>
  k (.mk x0 .top x4 .top x6 .top .top .top y1 .top .top) s
noncomputable def S28r10 {R : Type} (call : Nat → List AV → M AV) : W28 → Nat → AS → (W28 → AS → Option R) → Option R := @W28.rec (fun _ => Nat → AS → (W28 → AS → Option R) → Option R) fun x0 x1 x4 x5 x6 x10 x14 x29 x33 x37 x40 base s k =>
  bndP (loadQ true 2 x6 s.h) fun y0 =>
  bndO (storeQ x4 y0 2 s) fun _ s =>
  k (.mk .top .top x4 ((.bool true) : AV) .top .top .top .top .top .top .top) s
noncomputable def S28r11 {R : Type} (call : Nat → List AV → M AV) : W28 → Nat → AS → (W28 → AS → Option R) → Option R := @W28.rec (fun _ => Nat → AS → (W28 → AS → Option R) → Option R) fun x0 x1 x4 x5 x6 x10 x14 x29 x33 x37 x40 base s k =>
  bndO (call 60 [x0, ((.str [125]) : AV)] s) fun y0 s =>
  bndP (notA y0) fun y1 =>
  k (.mk x0 .top x4 .top x6 .top .top .top .top y1 .top) s
noncomputable def S28r12 {R : Type} (call : Nat → List AV → M AV) : W28 → Nat → AS → (W28 → AS → Option R) → Option R := @W28.rec (fun _ => Nat → AS → (W28 → AS → Option R) → Option R) fun x0 x1 x4 x5 x6 x10 x14 x29 x33 x37 x40 base s k =>
  bndO (call 61 [x0, x6] s) fun y0 s =>
  bndP (notA y0) fun y1 =>
  k (.mk x0 .top x4 .top x6 .top .top .top .top .top y1) s
noncomputable def S28r13 {R : Type} (call : Nat → List AV → M AV) : W28 → Nat → AS → (W28 → AS → Option R) → Option R := @W28.rec (fun _ => Nat → AS → (W28 → AS → Option R) → Option R) fun x0 x1 x4 x5 x6 x10 x14 x29 x33 x37 x40 base s k =>
  bndP (loadQ true 2 x6 s.h) fun y0 =>
  bndO (storeQ x4 y0 2 s) fun _ s =>
  k (.mk .top .top x4 ((.bool false) : AV) .top .top .top .top .top .top .top) s
noncomputable def S28b14 {R : Type} (call : Nat → List AV → M AV) (fuel : Nat) : SC W28 W28 R := sSeq (sSeq (sReg 3 (S28r11 call)) (sCond (@W28.rec (fun _ => AV) fun _ _ _ _ _ _ _ _ _ x37 _ => x37) (sSkip) (sExit 0))) (sBlock 1 (sSeq (sReg 3 (S28r12 call)) (sCond (@W28.rec (fun _ => AV) fun _ _ _ _ _ _ _ _ _ _ x40 => x40) (sSeq (sReg 3 (S28r13 call)) (sRet)) (sSkip))))
noncomputable def S28r15 {R : Type} (call : Nat → List AV → M AV) : W28 → Nat → AS → (W28 → AS → Option R) → Option R := @W28.rec (fun _ => Nat → AS → (W28 → AS → Option R) → Option R) fun x0 x1 x4 x5 x6 x10 x14 x29 x33 x37 x40 base s k =>
  bndP (loadQ true 2 x6 s.h) fun y0 =>
  bndO (storeQ x4 y0 2 s) fun _ s =>
  k (.mk .top .top x4 ((.bool true) : AV) .top .top .top .top .top .top .top) s
noncomputable def S28c {R : Type} (call : Nat → List AV → M AV) (fuel : Nat) : SC V28 W28 R := sSeq (sReg 2 (S28r0 call)) (sSeq (sReg 1 (S28r1 call)) (sSeq (sSeq (sReg 4 (S28r2 call)) (sCond (@W28.rec (fun _ => AV) fun _ _ _ _ _ x10 _ _ _ _ _ => x10) (sSeq (sReg 3 (S28r3 call)) (sRet)) (sSkip))) (sSeq (sSeq (sReg 3 (S28r4 call)) (sCond (@W28.rec (fun _ => AV) fun _ _ _ _ _ _ x14 _ _ _ _ => x14) (sSeq (sReg 5 (S28r5 call)) (sRet)) (sSkip))) (sSeq (sReg 9 (S28r6 call)) (sSeq (sSeq (sReg 4 (S28r7 call)) (sCond (@W28.rec (fun _ => AV) fun _ _ _ _ _ _ _ x29 _ _ _ => x29) (sSeq (sReg 3 (S28r8 call)) (sRet)) (sSkip))) (sSeq (sSeq (sReg 3 (S28r9 call)) (sCond (@W28.rec (fun _ => AV) fun _ _ _ _ _ _ _ _ x33 _ _ => x33) (sSeq (sReg 3 (S28r10 call)) (sRet)) (sSkip))) (sSeq (sBlock 0 (sLoop fuel (S28b14 call fuel))) (sSeq (sReg 3 (S28r15 call)) (sRet)))))))))
noncomputable def S28e : Ex → W28 → AS → Option (AV × AS) := fun e w s => (@W28.rec (fun _ => Option (AV × AS)) fun _ _ x4 x5 _ _ _ _ _ _ _ => @Ex.rec (fun _ => Option (AV × AS)) (match resS [fun h => loadA true 2 x4 h, fun _ => some x5] s.h with | some vs => some (shut vs, s) | none => none) (fun _ => none) (match resS [fun h => loadA true 2 x4 h, fun _ => some x5] s.h with | some vs => some (shut vs, s) | none => none) e) w
noncomputable def S28 (call : Nat → List AV → M AV) (fuel : Nat) (args : List AV) (s : AS) : Option (AV × AS) := match args with
  | [x0, x1] => S28c call fuel (.mk x0 x1) s S28e
  | _ => none
theorem S28_sim (call : Nat → List AV → M AV) (fuel : Nat) : Sim (R := AV × AS) call fuel mi28 mo28 A28.code (S28c call fuel) := by
  refine sim_seq (sim_reg (fun ⟨x0, x1⟩ _ _ _ => by kernel_rfl)) (sim_seq (sim_reg (fun ⟨x0, x1, x4, x5, x6, x10, x14, x29, x33, x37, x40⟩ _ _ _ => by kernel_rfl)) (sim_seq (sim_seq (sim_reg (fun ⟨x0, x1, x4, x5, x6, x10, x14, x29, x33, x37, x40⟩ _ _ _ => by kernel_rfl)) (sim_cond (fun ⟨x0, x1, x4, x5, x6, x10, x14, x29, x33, x37, x40⟩ => by kernel_rfl) (sim_seq (sim_reg (fun ⟨x0, x1, x4, x5, x6, x10, x14, x29, x33, x37, x40⟩ _ _ _ => by kernel_rfl)) (sim_ret)) (sim_skip))) (sim_seq (sim_seq (sim_reg (fun ⟨x0, x1, x4, x5, x6, x10, x14, x29, x33, x37, x40⟩ _ _ _ => by kernel_rfl)) (sim_cond (fun ⟨x0, x1, x4, x5, x6, x10, x14, x29, x33, x37, x40⟩ => by kernel_rfl) (sim_seq (sim_reg (fun ⟨x0, x1, x4, x5, x6, x10, x14, x29, x33, x37, x40⟩ _ _ _ => by kernel_rfl)) (sim_ret)) (sim_skip))) (sim_seq (sim_reg (fun ⟨x0, x1, x4, x5, x6, x10, x14, x29, x33, x37, x40⟩ _ _ _ => by kernel_rfl)) (sim_seq (sim_seq (sim_reg (fun ⟨x0, x1, x4, x5, x6, x10, x14, x29, x33, x37, x40⟩ _ _ _ => by kernel_rfl)) (sim_cond (fun ⟨x0, x1, x4, x5, x6, x10, x14, x29, x33, x37, x40⟩ => by kernel_rfl) (sim_seq (sim_reg (fun ⟨x0, x1, x4, x5, x6, x10, x14, x29, x33, x37, x40⟩ _ _ _ => by kernel_rfl)) (sim_ret)) (sim_skip))) (sim_seq (sim_seq (sim_reg (fun ⟨x0, x1, x4, x5, x6, x10, x14, x29, x33, x37, x40⟩ _ _ _ => by kernel_rfl)) (sim_cond (fun ⟨x0, x1, x4, x5, x6, x10, x14, x29, x33, x37, x40⟩ => by kernel_rfl) (sim_seq (sim_reg (fun ⟨x0, x1, x4, x5, x6, x10, x14, x29, x33, x37, x40⟩ _ _ _ => by kernel_rfl)) (sim_ret)) (sim_skip))) (sim_seq (sim_block (sim_loop (sim_seq (sim_seq (sim_reg (fun ⟨x0, x1, x4, x5, x6, x10, x14, x29, x33, x37, x40⟩ _ _ _ => by kernel_rfl)) (sim_cond (fun ⟨x0, x1, x4, x5, x6, x10, x14, x29, x33, x37, x40⟩ => by kernel_rfl) (sim_skip) (sim_exit))) (sim_block (sim_seq (sim_reg (fun ⟨x0, x1, x4, x5, x6, x10, x14, x29, x33, x37, x40⟩ _ _ _ => by kernel_rfl)) (sim_cond (fun ⟨x0, x1, x4, x5, x6, x10, x14, x29, x33, x37, x40⟩ => by kernel_rfl) (sim_seq (sim_reg (fun ⟨x0, x1, x4, x5, x6, x10, x14, x29, x33, x37, x40⟩ _ _ _ => by kernel_rfl)) (sim_ret)) (sim_skip))))))) (sim_seq (sim_reg (fun ⟨x0, x1, x4, x5, x6, x10, x14, x29, x33, x37, x40⟩ _ _ _ => by kernel_rfl)) (sim_ret)))))))))
theorem S28_ok (call : Nat → List AV → M AV) (fuel : Nat) (args : List AV) (s : AS) : afn call fuel A28 args s = S28 call fuel args s := by
  rcases args with _ | ⟨x0, _ | ⟨x1, _ | ⟨x2, r⟩⟩⟩
  · kernel_rfl
  · kernel_rfl
  · exact (afn_sim (S28_sim call fuel) (v := (.mk x0 x1)) (e2 := S28e) (by kernel_rfl) (by kernel_rfl) (fun e w s => by cases w; cases e <;> kernel_rfl)).trans (by kernel_rfl)
  · kernel_rfl
def A29 : AFn := { nargs := 2, ntmps := 8, res := [.tmp 4], code := .seq (.ops [⟨0, (some 4), none, .p (.mv (.const (.bool false))), []⟩] 1 [0, 1]) (.seq (.ops [⟨0, (some 5), none, .p (.mv (.tmp 0)), []⟩, ⟨1, (some 6), none, .p (.mv (.tmp 1)), []⟩, ⟨2, (some 7), none, .e (.call true 62 [.tmp 5, .tmp 6, .const (.fn 63 [])]), []⟩, ⟨3, (some 4), none, .p (.mv (.tmp 7)), []⟩] 4 [4]) (.ret)) }
def N29 : Notes := { note := fun _ => none, keep := fun | 1 => [4] | 0 => [0, 1] | _ => [] }
theorem A29_ok : cFn Try.prog qf N29 Try.f29 = some A29 := by kernel_rfl
inductive W29 where
  | mk (x0 x1 x4 : AV)
inductive V29 where
  | mk (x0 x1 : AV)
def mo29 : W29 → Fr := fun ⟨x0, x1, x4⟩ => [x0, x1, .top, .top, x4, .top, .top, .top]
def mi29 : V29 → Fr := fun ⟨x0, x1⟩ => [x0, x1, .tup [], .tup [], .tup [], .tup [], .tup [], .tup []]
noncomputable def S29r0 {R : Type} (call : Nat → List AV → M AV) : V29 → Nat → AS → (W29 → AS → Option R) → Option R := @V29.rec (fun _ => Nat → AS → (W29 → AS → Option R) → Option R) fun x0 x1 base s k =>
  k (.mk x0 x1 .top) s
noncomputable def S29r1 {R : Type} (call : Nat → List AV → M AV) : W29 → Nat → AS → (W29 → AS → Option R) → Option R := @W29.rec (fun _ => Nat → AS → (W29 → AS → Option R) → Option R) fun x0 x1 x4 base s k =>
  bndO (quietQ call 62 [x0, x1, ((.fn 63 []) : AV)] s) fun y0 s =>
  k (.mk .top .top y0) s
noncomputable def S29c {R : Type} (call : Nat → List AV → M AV) (fuel : Nat) : SC V29 W29 R := sSeq (sReg 1 (S29r0 call)) (sSeq (sReg 4 (S29r1 call)) (sRet))
noncomputable def S29e : Ex → W29 → AS → Option (AV × AS) := fun e w s => (@W29.rec (fun _ => Option (AV × AS)) fun _ _ x4 => @Ex.rec (fun _ => Option (AV × AS)) (some (x4, s)) (fun _ => none) (some (x4, s)) e) w
noncomputable def S29 (call : Nat → List AV → M AV) (fuel : Nat) (args : List AV) (s : AS) : Option (AV × AS) := match args with
  | [x0, x1] => S29c call fuel (.mk x0 x1) s S29e
  | _ => none
theorem S29_sim (call : Nat → List AV → M AV) (fuel : Nat) : Sim (R := AV × AS) call fuel mi29 mo29 A29.code (S29c call fuel) := by
  refine sim_seq (sim_reg (fun ⟨x0, x1⟩ _ _ _ => by kernel_rfl)) (sim_seq (sim_reg (fun ⟨x0, x1, x4⟩ _ _ _ => by kernel_rfl)) (sim_ret))
theorem S29_ok (call : Nat → List AV → M AV) (fuel : Nat) (args : List AV) (s : AS) : afn call fuel A29 args s = S29 call fuel args s := by
  rcases args with _ | ⟨x0, _ | ⟨x1, _ | ⟨x2, r⟩⟩⟩
  · kernel_rfl
  · kernel_rfl
  · exact (afn_sim (S29_sim call fuel) (v := (.mk x0 x1)) (e2 := S29e) (by kernel_rfl) (by kernel_rfl) (fun e w s => by cases w; cases e <;> kernel_rfl)).trans (by kernel_rfl)
  · kernel_rfl
def A30 : AFn := { nargs := 2, ntmps := 26, res := [.tmp 4], code := .seq (.ops [⟨0, (some 4), none, .p (.mv (.const (.bool false))), []⟩] 1 [0, 1]) (.seq (.seq (.ops [⟨0, (some 6), none, .p (.mv (.tmp 0)), []⟩, ⟨1, (some 7), none, .p (.lenS false (.tmp 6)), []⟩, ⟨2, (some 8), none, .p (.mv (.tmp 1)), []⟩, ⟨3, (some 9), none, .p (.lenS false (.tmp 8)), []⟩, ⟨4, (some 10), none, .p (.bin .neq (.tmp 7) (.tmp 9)), []⟩] 5 [0, 1, 10]) (.cond (.tmp 10) (.seq (.ops [⟨0, (some 4), none, .p (.mv (.const (.bool false))), []⟩] 1 [4]) (.ret)) (.skip))) (.seq (.seq (.ops [⟨0, (some 5), none, .p (.mv (.const (.int .i64 0))), []⟩] 1 [0, 1, 5]) (.block 0 (.loop (.seq (.seq (.ops [⟨0, (some 11), none, .p (.mv (.tmp 5)), []⟩, ⟨1, (some 12), none, .p (.mv (.tmp 0)), []⟩, ⟨2, (some 13), none, .p (.lenS false (.tmp 12)), []⟩, ⟨3, (some 14), none, .p (.bin .lss (.tmp 11) (.tmp 13)), []⟩] 4 [0, 1, 5, 14]) (.cond (.tmp 14) (.skip) (.exit 0))) (.seq (.block 1 (.seq (.ops [⟨0, (some 17), none, .p (.mv (.tmp 0)), []⟩, ⟨1, (some 18), none, .p (.mv (.tmp 5)), []⟩, ⟨2, (some 19), none, .p (.idx 3 (.tmp 17) (.tmp 18)), []⟩, ⟨4, (some 21), none, .p (.mv (.tmp 1)), []⟩, ⟨5, (some 22), none, .p (.mv (.tmp 5)), []⟩, ⟨6, (some 23), none, .p (.idx 3 (.tmp 21) (.tmp 22)), []⟩, ⟨3, (some 20), none, .r (.load true 3 (.tmp 19)), []⟩, ⟨7, (some 24), none, .r (.load true 3 (.tmp 23)), []⟩, ⟨8, (some 25), none, .p (.eqs true [true, true, true] (.tmp 20) (.tmp 24)), []⟩] 9 [0, 1, 5, 25]) (.cond (.tmp 25) (.seq (.ops [⟨0, (some 4), none, .p (.mv (.const (.bool false))), []⟩] 1 [4]) (.ret)) (.skip)))) (.ops [⟨0, (some 15), none, .p (.mv (.tmp 5)), []⟩, ⟨1, (some 16), none, .p (.bin .add (.tmp 15) (.const (.int .i64 1))), []⟩, ⟨2, (some 5), none, .p (.mv (.tmp 16)), []⟩] 3 [0, 1, 5])))))) (.seq (.ops [⟨0, (some 4), none, .p (.mv (.const (.bool true))), []⟩] 1 [4]) (.ret)))) }
def N30 : Notes := { note := fun | 6 => some ⟨[0, 1, 2, 4, 5, 6, 3, 7, 8], [0, 0, 3, 7, 0, 0, 48, 112, 255], [[], [], [], [], [], [], [], [], []]⟩ | _ => none, keep := fun | 8 => [4] | 5 => [0, 1, 5] | 7 => [4] | 6 => [0, 1, 5, 25] | 4 => [0, 1, 5, 14] | 3 => [0, 1, 5] | 2 => [4] | 1 => [0, 1, 10] | 0 => [0, 1] | _ => [] }
theorem A30_ok : cFn Try.prog qf N30 Try.f30 = some A30 := by kernel_rfl
inductive W30 where
  | mk (x0 x1 x4 x5 x10 x14 x25 : AV)
inductive V30 where
  | mk (x0 x1 : AV)
def mo30 : W30 → Fr := fun ⟨x0, x1, x4, x5, x10, x14, x25⟩ => [x0, x1, .top, .top, x4, x5, .top, .top, .top, .top, x10, .top, .top, .top, x14, .top, .top, .top, .top, .top, .top, .top, .top, .top, .top, x25]
def mi30 : V30 → Fr := fun ⟨x0, x1⟩ => [x0, x1, .tup [], .tup [], .tup [], .tup [], .tup [], .tup [], .tup [], .tup [], .tup [], .tup [], .tup [], .tup [], .tup [], .tup [], .tup [], .tup [], .tup [], .tup [], .tup [], .tup [], .tup [], .tup [], .tup [], .tup []]
noncomputable def S30r0 {R : Type} (call : Nat → List AV → M AV) : V30 → Nat → AS → (W30 → AS → Option R) → Option R := @V30.rec (fun _ => Nat → AS → (W30 → AS → Option R) → Option R) fun x0 x1 base s k =>
  k (.mk x0 x1 .top .top .top .top .top) s
noncomputable def S30r1 {R : Type} (call : Nat → List AV → M AV) : W30 → Nat → AS → (W30 → AS → Option R) → Option R := @W30.rec (fun _ => Nat → AS → (W30 → AS → Option R) → Option R) fun x0 x1 x4 x5 x10 x14 x25 base s k =>
  bndP (lenAQ false x0) fun y0 =>
  bndP (lenAQ false x1) fun y1 =>
  bndP (binQ .neq y0 y1) fun y2 =>
  k (.mk x0 x1 .top .top y2 .top .top) s
noncomputable def S30r2 {R : Type} (call : Nat → List AV → M AV) : W30 → Nat → AS → (W30 → AS → Option R) → Option R := @W30.rec (fun _ => Nat → AS → (W30 → AS → Option R) → Option R) fun x0 x1 x4 x5 x10 x14 x25 base s k =>
  k (.mk .top .top ((.bool false) : AV) .top .top .top .top) s
noncomputable def S30r3 {R : Type} (call : Nat → List AV → M AV) : W30 → Nat → AS → (W30 → AS → Option R) → Option R := @W30.rec (fun _ => Nat → AS → (W30 → AS → Option R) → Option R) fun x0 x1 x4 x5 x10 x14 x25 base s k =>
  k (.mk x0 x1 .top ((.int .i64 0) : AV) .top .top .top) s
noncomputable def S30r4 {R : Type} (call : Nat → List AV → M AV) : W30 → Nat → AS → (W30 → AS → Option R) → Option R := @W30.rec (fun _ => Nat → AS → (W30 → AS → Option R) → Option R) fun x0 x1 x4 x5 x10 x14 x25 base s k =>
  bndP (lenAQ false x0) fun y0 =>
  bndP (binQ .lss x5 y0) fun y1 =>
  k (.mk x0 x1 .top x5 .top y1 .top) s
noncomputable def S30r5 {R : Type} (call : Nat → List AV → M AV) : W30 → Nat → AS → (W30 → AS → Option R) → Option R := @W30.rec (fun _ => Nat → AS → (W30 → AS → Option R) → Option R) fun x0 x1 x4 x5 x10 x14 x25 base s k =>
  bndP (idxQ 3 x0 x5) fun y0 =>
  bndP (idxQ 3 x1 x5) fun y1 =>
  bndP (loadQ true 3 y0 s.h) fun y2 =>
  bndP (loadQ true 3 y1 s.h) fun y3 =>
  bndP (eqsA true [true, true, true] y2 y3) fun y4 =>
  k (.mk x0 x1 .top x5 .top .top y4) s
noncomputable def S30r6 {R : Type} (call : Nat → List AV → M AV) : W30 → Nat → AS → (W30 → AS → Option R) → Option R := @W30.rec (fun _ => Nat → AS → (W30 → AS → Option R) → Option R) fun x0 x1 x4 x5 x10 x14 x25 base s k =>
  k (.mk .top .top ((.bool false) : AV) .top .top .top .top) s
noncomputable def S30r7 {R : Type} (call : Nat → List AV → M AV) : W30 → Nat → AS → (W30 → AS → Option R) → Option R := @W30.rec (fun _ => Nat → AS → (W30 → AS → Option R) → Option R) fun x0 x1 x4 x5 x10 x14 x25 base s k =>
  bndP (binQ .add x5 ((.int .i64 1) : AV)) fun y0 =>
  k (.mk x0 x1 .top y0 .top .top .top) s
noncomputable def S30b8 {R : Type} (call : Nat → List AV → M AV) (fuel : Nat) : SC W30 W30 R := sSeq (sSeq (sReg 4 (S30r4 call)) (sCond (@W30.rec (fun _ => AV) fun _ _ _ _ _ x14 _ => x14) (sSkip) (sExit 0))) (sSeq (sBlock 1 (sSeq (sReg 9 (S30r5 call)) (sCond (@W30.rec (fun _ => AV) fun _ _ _ _ _ _ x25 => x25) (sSeq (sReg 1 (S30r6 call)) (sRet)) (sSkip)))) (sReg 3 (S30r7 call)))
noncomputable def S30r9 {R : Type} (call : Nat → List AV → M AV) : W30 → Nat → AS → (W30 → AS → Option R) → Option R := @W30.rec (fun _ => Nat → AS → (W30 → AS → Option R) → Option R) fun x0 x1 x4 x5 x10 x14 x25 base s k =>
  k (.mk .top .top ((.bool true) : AV) .top .top .top .top) s
noncomputable def S30c {R : Type} (call : Nat → List AV → M AV) (fuel : Nat) : SC V30 W30 R := sSeq (sReg 1 (S30r0 call)) (sSeq (sSeq (sReg 5 (S30r1 call)) (sCond (@W30.rec (fun _ => AV) fun _ _ _ _ x10 _ _ => x10) (sSeq (sReg 1 (S30r2 call)) (sRet)) (sSkip))) (sSeq (sSeq (sReg 1 (S30r3 call)) (sBlock 0 (sLoop fuel (S30b8 call fuel)))) (sSeq (sReg 1 (S30r9 call)) (sRet))))
noncomputable def S30e : Ex → W30 → AS → Option (AV × AS) := fun e w s => (@W30.rec (fun _ => Option (AV × AS)) fun _ _ x4 _ _ _ _ => @Ex.rec (fun _ => Option (AV × AS)) (some (x4, s)) (fun _ => none) (some (x4, s)) e) w
noncomputable def S30 (call : Nat → List AV → M AV) (fuel : Nat) (args : List AV) (s : AS) : Option (AV × AS) := match args with
  | [x0, x1] => S30c call fuel (.mk x0 x1) s S30e
  | _ => none
theorem S30_sim (call : Nat → List AV → M AV) (fuel : Nat) : Sim (R := AV × AS) call fuel mi30 mo30 A30.code (S30c call fuel) := by
  refine sim_seq (sim_reg (fun ⟨x0, x1⟩ _ _ _ => by kernel_rfl)) (sim_seq (sim_seq (sim_reg (fun ⟨x0, x1, x4, x5, x10, x14, x25⟩ _ _ _ => by kernel_rfl)) (sim_cond (fun ⟨x0, x1, x4, x5, x10, x14, x25⟩ => by kernel_rfl) (sim_seq (sim_reg (fun ⟨x0, x1, x4, x5, x10, x14, x25⟩ _ _ _ => by kernel_rfl)) (sim_ret)) (sim_skip))) (sim_seq (sim_seq (sim_reg (fun ⟨x0, x1, x4, x5, x10, x14, x25⟩ _ _ _ => by kernel_rfl)) (sim_block (sim_loop (sim_seq (sim_seq (sim_reg (fun ⟨x0, x1, x4, x5, x10, x14, x25⟩ _ _ _ => by kernel_rfl)) (sim_cond (fun ⟨x0, x1, x4, x5, x10, x14, x25⟩ => by kernel_rfl) (sim_skip) (sim_exit))) (sim_seq (sim_block (sim_seq (sim_reg (fun ⟨x0, x1, x4, x5, x10, x14, x25⟩ _ _ _ => by kernel_rfl)) (sim_cond (fun ⟨x0, x1, x4, x5, x10, x14, x25⟩ => by kernel_rfl) (sim_seq (sim_reg (fun ⟨x0, x1, x4, x5, x10, x14, x25⟩ _ _ _ => by kernel_rfl)) (sim_ret)) (sim_skip)))) (sim_reg (fun ⟨x0, x1, x4, x5, x10, x14, x25⟩ _ _ _ => by kernel_rfl))))))) (sim_seq (sim_reg (fun ⟨x0, x1, x4, x5, x10, x14, x25⟩ _ _ _ => by kernel_rfl)) (sim_ret))))
theorem S30_ok (call : Nat → List AV → M AV) (fuel : Nat) (args : List AV) (s : AS) : afn call fuel A30 args s = S30 call fuel args s := by
  rcases args with _ | ⟨x0, _ | ⟨x1, _ | ⟨x2, r⟩⟩⟩
  · kernel_rfl
  · kernel_rfl
  · exact (afn_sim (S30_sim call fuel) (v := (.mk x0 x1)) (e2 := S30e) (by kernel_rfl) (by kernel_rfl) (fun e w s => by cases w; cases e <;> kernel_rfl)).trans (by kernel_rfl)
  · kernel_rfl
def A31 : AFn := { nargs := 2, ntmps := 26, res := [.tmp 4], code := .seq (.ops [⟨0, (some 4), none, .p (.mv (.const (.bool false))), []⟩] 1 [0, 1]) (.seq (.seq (.ops [⟨0, (some 6), none, .p (.mv (.tmp 0)), []⟩, ⟨1, (some 7), none, .p (.lenS false (.tmp 6)), []⟩, ⟨2, (some 8), none, .p (.mv (.tmp 1)), []⟩, ⟨3, (some 9), none, .p (.lenS false (.tmp 8)), []⟩, ⟨4, (some 10), none, .p (.bin .neq (.tmp 7) (.tmp 9)), []⟩] 5 [0, 1, 10]) (.cond (.tmp 10) (.seq (.ops [⟨0, (some 4), none, .p (.mv (.const (.bool false))), []⟩] 1 [4]) (.ret)) (.skip))) (.seq (.seq (.ops [⟨0, (some 5), none, .p (.mv (.const (.int .i64 0))), []⟩] 1 [0, 1, 5]) (.block 0 (.loop (.seq (.seq (.ops [⟨0, (some 11), none, .p (.mv (.tmp 5)), []⟩, ⟨1, (some 12), none, .p (.mv (.tmp 0)), []⟩, ⟨2, (some 13), none, .p (.lenS false (.tmp 12)), []⟩, ⟨3, (some 14), none, .p (.bin .lss (.tmp 11) (.tmp 13)), []⟩] 4 [0, 1, 5, 14]) (.cond (.tmp 14) (.skip) (.exit 0))) (.seq (.block 1 (.seq (.ops [⟨0, (some 17), none, .p (.mv (.tmp 0)), []⟩, ⟨1, (some 18), none, .p (.mv (.tmp 5)), []⟩, ⟨2, (some 19), none, .p (.idx 3 (.tmp 17) (.tmp 18)), []⟩, ⟨4, (some 21), none, .p (.mv (.tmp 1)), []⟩, ⟨5, (some 22), none, .p (.mv (.tmp 5)), []⟩, ⟨6, (some 23), none, .p (.idx 3 (.tmp 21) (.tmp 22)), []⟩, ⟨3, (some 20), none, .r (.load true 3 (.tmp 19)), []⟩, ⟨7, (some 24), none, .r (.load true 3 (.tmp 23)), []⟩, ⟨8, (some 25), none, .p (.eqs true [false, true, true] (.tmp 20) (.tmp 24)), []⟩] 9 [0, 1, 5, 25]) (.cond (.tmp 25) (.seq (.ops [⟨0, (some 4), none, .p (.mv (.const (.bool false))), []⟩] 1 [4]) (.ret)) (.skip)))) (.ops [⟨0, (some 15), none, .p (.mv (.tmp 5)), []⟩, ⟨1, (some 16), none, .p (.bin .add (.tmp 15) (.const (.int .i64 1))), []⟩, ⟨2, (some 5), none, .p (.mv (.tmp 16)), []⟩] 3 [0, 1, 5])))))) (.seq (.ops [⟨0, (some 4), none, .p (.mv (.const (.bool true))), []⟩] 1 [4]) (.ret)))) }
def N31 : Notes := { note := fun | 6 => some ⟨[0, 1, 2, 4, 5, 6, 3, 7, 8], [0, 0, 3, 7, 0, 0, 48, 112, 255], [[], [], [], [], [], [], [], [], []]⟩ | _ => none, keep := fun | 8 => [4] | 5 => [0, 1, 5] | 7 => [4] | 6 => [0, 1, 5, 25] | 4 => [0, 1, 5, 14] | 3 => [0, 1, 5] | 2 => [4] | 1 => [0, 1, 10] | 0 => [0, 1] | _ => [] }
theorem A31_ok : cFn Try.prog qf N31 Try.f31 = some A31 := by kernel_rfl
inductive W31 where
  | mk (x0 x1 x4 x5 x10 x14 x25 : AV)
inductive V31 where
  | mk (x0 x1 : AV)
def mo31 : W31 → Fr := fun ⟨x0, x1, x4, x5, x10, x14, x25⟩ => [x0, x1, .top, .top, x4, x5, .top, .top, .top, .top, x10, .top, .top, .top, x14, .top, .top, .top, .top, .top, .top, .top, .top, .top, .top, x25]
def mi31 : V31 → Fr := fun ⟨x0, x1⟩ => [x0, x1, .tup [], .tup [], .tup [], .tup [], .tup [], .tup [], .tup [], .tup [], .tup [], .tup [], .tup [], .tup [], .tup [], .tup [], .tup [], .tup [], .tup [], .tup [], .tup [], .tup [], .tup [], .tup [], .tup [], .tup []]
noncomputable def S31r0 {R : Type} (call : Nat → List AV → M AV) : V31 → Nat → AS → (W31 → AS → Option R) → Option R := @V31.rec (fun _ => Nat → AS → (W31 → AS → Option R) → Option R) fun x0 x1 base s k =>
  k (.mk x0 x1 .top .top .top .top .top) s
noncomputable def S31r1 {R : Type} (call : Nat → List AV → M AV) : W31 → Nat → AS → (W31 → AS → Option R) → Option R := @W31.rec (fun _ => Nat → AS → (W31 → AS → Option R) → Option R) fun x0 x1 x4 x5 x10 x14 x25 base s k =>
  bndP (lenAQ false x0) fun y0 =>
  bndP (lenAQ false x1) fun y1 =>
  bndP (binQ .neq y0 y1) fun y2 =>
  k (.mk x0 x1 .top .top y2 .top .top) s
noncomputable def S31r2 {R : Type} (call : Nat → List AV → M AV) : W31 → Nat → AS → (W31 → AS → Option R) → Option R := @W31.rec (fun _ => Nat → AS → (W31 → AS → Option R) → Option R) fun x0 x1 x4 x5 x10 x14 x25 base s k =>
  k (.mk .top .top ((.bool false) : AV) .top .top .top .top) s
noncomputable def S31r3 {R : Type} (call : Nat → List AV → M AV) : W31 → Nat → AS → (W31 → AS → Option R) → Option R := @W31.rec (fun _ => Nat → AS → (W31 → AS → Option R) → Option R) fun x0 x1 x4 x5 x10 x14 x25 base s k =>
  k (.mk x0 x1 .top ((.int .i64 0) : AV) .top .top .top) s
noncomputable def S31r4 {R : Type} (call : Nat → List AV → M AV) : W31 → Nat → AS → (W31 → AS → Option R) → Option R := @W31.rec (fun _ => Nat → AS → (W31 → AS → Option R) → Option R) fun x0 x1 x4 x5 x10 x14 x25 base s k =>
  bndP (lenAQ false x0) fun y0 =>
  bndP (binQ .lss x5 y0) fun y1 =>
  k (.mk x0 x1 .top x5 .top y1 .top) s
noncomputable def S31r5 {R : Type} (call : Nat → List AV → M AV) : W31 → Nat → AS → (W31 → AS → Option R) → Option R := @W31.rec (fun _ => Nat → AS → (W31 → AS → Option R) → Option R) fun x0 x1 x4 x5 x10 x14 x25 base s k =>
  bndP (idxQ 3 x0 x5) fun y0 =>
  bndP (idxQ 3 x1 x5) fun y1 =>
  bndP (loadQ true 3 y0 s.h) fun y2 =>
  bndP (loadQ true 3 y1 s.h) fun y3 =>
  bndP (eqsA true [false, true, true] y2 y3) fun y4 =>
  k (.mk x0 x1 .top x5 .top .top y4) s
noncomputable def S31r6 {R : Type} (call : Nat → List AV → M AV) : W31 → Nat → AS → (W31 → AS → Option R) → Option R := @W31.rec (fun _ => Nat → AS → (W31 → AS → Option R) → Option R) fun x0 x1 x4 x5 x10 x14 x25 base s k =>
  k (.mk .top .top ((.bool false) : AV) .top .top .top .top) s
noncomputable def S31r7 {R : Type} (call : Nat → List AV → M AV) : W31 → Nat → AS → (W31 → AS → Option R) → Option R := @W31.rec (fun _ => Nat → AS → (W31 → AS → Option R) → Option R) fun x0 x1 x4 x5 x10 x14 x25 base s k =>
  bndP (binQ .add x5 ((.int .i64 1) : AV)) fun y0 =>
  k (.mk x0 x1 .top y0 .top .top .top) s
noncomputable def S31b8 {R : Type} (call : Nat → List AV → M AV) (fuel : Nat) : SC W31 W31 R := sSeq (sSeq (sReg 4 (S31r4 call)) (sCond (@W31.rec (fun _ => AV) fun _ _ _ _ _ x14 _ => x14) (sSkip) (sExit 0))) (sSeq (sBlock 1 (sSeq (sReg 9 (S31r5 call)) (sCond (@W31.rec (fun _ => AV) fun _ _ _ _ _ _ x25 => x25) (sSeq (sReg 1 (S31r6 call)) (sRet)) (sSkip)))) (sReg 3 (S31r7 call)))
noncomputable def S31r9 {R : Type} (call : Nat → List AV → M AV) : W31 → Nat → AS → (W31 → AS → Option R) → Option R := @W31.rec (fun _ => Nat → AS → (W31 → AS → Option R) → Option R) fun x0 x1 x4 x5 x10 x14 x25 base s k =>
  k (.mk .top .top ((.bool true) : AV) .top .top .top .top) s
noncomputable def S31c {R : Type} (call : Nat → List AV → M AV) (fuel : Nat) : SC V31 W31 R := sSeq (sReg 1 (S31r0 call)) (sSeq (sSeq (sReg 5 (S31r1 call)) (sCond (@W31.rec (fun _ => AV) fun _ _ _ _ x10 _ _ => x10) (sSeq (sReg 1 (S31r2 call)) (sRet)) (sSkip))) (sSeq (sSeq (sReg 1 (S31r3 call)) (sBlock 0 (sLoop fuel (S31b8 call fuel)))) (sSeq (sReg 1 (S31r9 call)) (sRet))))
noncomputable def S31e : Ex → W31 → AS → Option (AV × AS) := fun e w s => (@W31.rec (fun _ => Option (AV × AS)) fun _ _ x4 _ _ _ _ => @Ex.rec (fun _ => Option (AV × AS)) (some (x4, s)) (fun _ => none) (some (x4, s)) e) w
noncomputable def S31 (call : Nat → List AV → M AV) (fuel : Nat) (args : List AV) (s : AS) : Option (AV × AS) := match args with
  | [x0, x1] => S31c call fuel (.mk x0 x1) s S31e
  | _ => none
theorem S31_sim (call : Nat → List AV → M AV) (fuel : Nat) : Sim (R := AV × AS) call fuel mi31 mo31 A31.code (S31c call fuel) := by
  refine sim_seq (sim_reg (fun ⟨x0, x1⟩ _ _ _ => by kernel_rfl)) (sim_seq (sim_seq (sim_reg (fun ⟨x0, x1, x4, x5, x10, x14, x25⟩ _ _ _ => by kernel_rfl)) (sim_cond (fun ⟨x0, x1, x4, x5, x10, x14, x25⟩ => by kernel_rfl) (sim_seq (sim_reg (fun ⟨x0, x1, x4, x5, x10, x14, x25⟩ _ _ _ => by kernel_rfl)) (sim_ret)) (sim_skip))) (sim_seq (sim_seq (sim_reg (fun ⟨x0, x1, x4, x5, x10, x14, x25⟩ _ _ _ => by kernel_rfl)) (sim_block (sim_loop (sim_seq (sim_seq (sim_reg (fun ⟨x0, x1, x4, x5, x10, x14, x25⟩ _ _ _ => by kernel_rfl)) (sim_cond (fun ⟨x0, x1, x4, x5, x10, x14, x25⟩ => by kernel_rfl) (sim_skip) (sim_exit))) (sim_seq (sim_block (sim_seq (sim_reg (fun ⟨x0, x1, x4, x5, x10, x14, x25⟩ _ _ _ => by kernel_rfl)) (sim_cond (fun ⟨x0, x1, x4, x5, x10, x14, x25⟩ => by kernel_rfl) (sim_seq (sim_reg (fun ⟨x0, x1, x4, x5, x10, x14, x25⟩ _ _ _ => by kernel_rfl)) (sim_ret)) (sim_skip)))) (sim_reg (fun ⟨x0, x1, x4, x5, x10, x14, x25⟩ _ _ _ => by kernel_rfl))))))) (sim_seq (sim_reg (fun ⟨x0, x1, x4, x5, x10, x14, x25⟩ _ _ _ => by kernel_rfl)) (sim_ret))))
theorem S31_ok (call : Nat → List AV → M AV) (fuel : Nat) (args : List AV) (s : AS) : afn call fuel A31 args s = S31 call fuel args s := by
  rcases args with _ | ⟨x0, _ | ⟨x1, _ | ⟨x2, r⟩⟩⟩
  · kernel_rfl
  · kernel_rfl
  · exact (afn_sim (S31_sim call fuel) (v := (.mk x0 x1)) (e2 := S31e) (by kernel_rfl) (by kernel_rfl) (fun e w s => by cases w; cases e <;> kernel_rfl)).trans (by kernel_rfl)
  · kernel_rfl
def A51 : AFn := { nargs := 1, ntmps := 56, res := [.tmp 2, .tmp 3], code := .seq (.ops [⟨0, (some 1), none, .l (.box (.tmp 0)), []⟩, ⟨1, (some 2), none, .p (.mv (.const (.str []))), []⟩, ⟨2, (some 3), none, .p (.mv (.const (.bool false))), []⟩] 3 [1]) (.seq (.seq (.ops [⟨0, (some 9), none, .p (.fld 2 (.tmp 1)), []⟩, ⟨1, (some 10), none, .r (.load false 1 (.tmp 9)), []⟩, ⟨2, (some 11), none, .p (.lenS false (.tmp 10)), []⟩, ⟨3, (some 12), none, .p (.bin .gtr (.tmp 11) (.const (.int .i64 0))), []⟩] 4 [1, 12]) (.cond (.tmp 12) (.seq (.ops [⟨0, (some 14), none, .p (.fld 2 (.tmp 1)), []⟩, ⟨1, (some 15), none, .r (.load false 1 (.tmp 14)), []⟩, ⟨2, (some 16), none, .e (.call true 81 [.tmp 15]), []⟩, ⟨3, (some 13), none, .p (.mv (.tmp 16)), []⟩, ⟨4, (some 17), none, .p (.extract (.tmp 13) 0), []⟩, ⟨5, (some 18), none, .p (.extract (.tmp 13) 1), []⟩, ⟨6, (some 4), none, .p (.mv (.tmp 17)), []⟩, ⟨7, (some 5), none, .p (.mv (.tmp 18)), []⟩] 8 [1, 4, 5]) (.seq (.ops [⟨0, (some 19), none, .p (.fld 0 (.tmp 1)), []⟩, ⟨1, (some 20), none, .r (.load false 1 (.tmp 19)), []⟩, ⟨2, (some 21), none, .p (.bin .add (.tmp 20) (.const (.str [32, 61, 32]))), []⟩, ⟨3, (some 22), none, .p (.mv (.tmp 4)), []⟩, ⟨4, (some 23), none, .p (.bin .add (.tmp 21) (.tmp 22)), []⟩, ⟨5, (some 24), none, .p (.bin .add (.tmp 23) (.const (.str [59]))), []⟩, ⟨6, (some 25), none, .p (.mv (.tmp 5)), []⟩, ⟨7, (some 2), none, .p (.mv (.tmp 24)), []⟩, ⟨8, (some 3), none, .p (.mv (.tmp 25)), []⟩] 9 [2, 3]) (.ret))) (.skip))) (.seq (.ops [⟨0, (some 6), none, .p (.mv (.const (.nils))), []⟩] 1 [1, 6]) (.seq (.seq (.ops [⟨0, (some 26), none, .p (.fld 1 (.tmp 1)), []⟩, ⟨1, (some 27), none, .r (.load false 1 (.tmp 26)), []⟩, ⟨2, (some 28), none, .p (.lenS false (.tmp 27)), []⟩, ⟨3, (some 29), none, .p (.mv (.const (.int .i64 0))), []⟩] 4 [1, 6, 27, 28, 29]) (.block 0 (.loop (.seq (.ops [⟨0, (some 30), none, .p (.bin .lss (.tmp 29) (.tmp 28)), []⟩] 1 [1, 6, 27, 28, 29, 30]) (.seq (.cond (.tmp 30) (.skip) (.exit 0)) (.seq (.block 1 (.seq (.ops [⟨0, (some 31), none, .p (.idx 3 (.tmp 27) (.tmp 29)), []⟩, ⟨1, (some 32), none, .r (.load true 3 (.tmp 31)), []⟩, ⟨2, (some 8), none, .l (.alloc [.str [], .str [], .str []]), []⟩, ⟨3, none, none, .e (.store (.tmp 8) (.tmp 32) 3), []⟩] 4 [1, 6, 8, 27, 28, 29]) (.seq (.seq (.ops [⟨0, (some 33), none, .p (.fld 2 (.tmp 8)), []⟩, ⟨1, (some 34), none, .r (.load false 1 (.tmp 33)), []⟩, ⟨2, (some 35), none, .p (.bin .neq (.tmp 34) (.const (.str []))), []⟩] 3 [1, 6, 8, 27, 28, 29, 35]) (.cond (.tmp 35) (.ops [⟨0, (some 36), none, .p (.fld 0 (.tmp 8)), []⟩, ⟨1, (some 37), none, .r (.load false 1 (.tmp 36)), []⟩, ⟨2, (some 38), none, .p (.fld 2 (.tmp 8)), []⟩, ⟨3, (some 39), none, .r (.load false 1 (.tmp 38)), []⟩, ⟨4, (some 40), none, .p (.bin .add (.const (.str [35])) (.tmp 39)), []⟩, ⟨5, (some 41), none, .p (.bin .add (.tmp 37) (.tmp 40)), []⟩, ⟨6, (some 42), none, .p (.fld 0 (.tmp 8)), []⟩, ⟨7, none, none, .e (.store (.tmp 42) (.tmp 41) 1), []⟩] 8 [1, 6, 8, 27, 28, 29]) (.skip))) (.ops [⟨0, (some 43), none, .p (.mv (.tmp 6)), []⟩, ⟨1, (some 44), none, .p (.fld 0 (.tmp 8)), []⟩, ⟨2, (some 45), none, .r (.load false 1 (.tmp 44)), []⟩, ⟨3, (some 46), none, .k { z := [.str []], len := 1, parts := [(0, .tmp 45)] }, []⟩, ⟨4, (some 47), none, .e (.append 1 16 (.tmp 43) (.tmp 46)), []⟩, ⟨5, (some 6), none, .p (.mv (.tmp 47)), []⟩] 6 [1, 6, 27, 28, 29])))) (.ops [⟨0, (some 48), none, .p (.bin .add (.tmp 29) (.const (.int .i64 1))), []⟩, ⟨1, (some 29), none, .p (.mv (.tmp 48)), []⟩] 2 [1, 6, 27, 28, 29]))))))) (.seq (.ops [⟨0, (some 49), none, .p (.fld 0 (.tmp 1)), []⟩, ⟨3, (some 52), none, .p (.mv (.tmp 6)), []⟩, ⟨1, (some 50), none, .r (.load false 1 (.tmp 49)), []⟩, ⟨2, (some 51), none, .p (.bin .add (.tmp 50) (.const (.str [58, 32]))), []⟩, ⟨4, (some 53), none, .e (.call true 82 [.tmp 52, .const (.str [32, 124, 32])]), []⟩, ⟨5, (some 54), none, .p (.bin .add (.tmp 51) (.tmp 53)), []⟩, ⟨6, (some 55), none, .p (.bin .add (.tmp 54) (.const (.str [59]))), []⟩, ⟨7, (some 2), none, .p (.mv (.tmp 55)), []⟩, ⟨8, (some 3), none, .p (.mv (.const (.bool true))), []⟩] 9 [2, 3]) (.ret))))) }
def N51 : Notes := { note := fun | 12 => some ⟨[0, 3, 1, 2, 4, 5, 6, 7, 8], [0, 1, 3, 0, 8, 31, 63, 127, 255], [[], [], [], [], [], [], [], [], []]⟩ | _ => none, keep := fun | 12 => [2, 3] | 11 => [1, 6, 27, 28, 29] | 10 => [1, 6, 27, 28, 29] | 9 => [1, 6, 8, 27, 28, 29] | 8 => [1, 6, 8, 27, 28, 29, 35] | 7 => [1, 6, 8, 27, 28, 29] | 6 => [1, 6, 27, 28, 29, 30] | 5 => [1, 6, 27, 28, 29] | 4 => [1, 6] | 3 => [2, 3] | 2 => [1, 4, 5] | 1 => [1, 12] | 0 => [1] | _ => [] }
theorem A51_ok : cFn Try.prog qf N51 Try.f51 = some A51 := by kernel_rfl
inductive W51 where
  | mk (x1 x2 x3 x4 x5 x6 x8 x12 x27 x28 x29 x30 x35 : AV)
abbrev V51 := AV
def mo51 : W51 → Fr := fun ⟨x1, x2, x3, x4, x5, x6, x8, x12, x27, x28, x29, x30, x35⟩ => [.top, x1, x2, x3, x4, x5, x6, .top, x8, .top, .top, .top, x12, .top, .top, .top, .top, .top, .top, .top, .top, .top, .top, .top, .top, .top, .top, x27, x28, x29, x30, .top, .top, .top, .top, x35, .top, .top, .top, .top, .top, .top, .top, .top, .top, .top, .top, .top, .top, .top, .top, .top, .top, .top, .top, .top]
def mi51 : V51 → Fr := fun x0 => [x0, .tup [], .tup [], .tup [], .tup [], .tup [], .tup [], .tup [], .tup [], .tup [], .tup [], .tup [], .tup [], .tup [], .tup [], .tup [], .tup [], .tup [], .tup [], .tup [], .tup [], .tup [], .tup [], .tup [], .tup [], .tup [], .tup [], .tup [], .tup [], .tup [], .tup [], .tup [], .tup [], .tup [], .tup [], .tup [], .tup [], .tup [], .tup [], .tup [], .tup [], .tup [], .tup [], .tup [], .tup [], .tup [], .tup [], .tup [], .tup [], .tup [], .tup [], .tup [], .tup [], .tup [], .tup [], .tup []]
noncomputable def S51r0 {R : Type} (call : Nat → List AV → M AV) : V51 → Nat → AS → (W51 → AS → Option R) → Option R := fun x0 base s k =>
  bndO (newQ (base + 0) (boxB x0 (base + 0)) s) fun y0 s =>
  k (.mk y0 .top .top .top .top .top .top .top .top .top .top .top .top) s
noncomputable def S51r1 {R : Type} (call : Nat → List AV → M AV) : W51 → Nat → AS → (W51 → AS → Option R) → Option R := @W51.rec (fun _ => Nat → AS → (W51 → AS → Option R) → Option R) fun x1 x2 x3 x4 x5 x6 x8 x12 x27 x28 x29 x30 x35 base s k =>
  bndP (fldA 2 x1) fun y0 =>
  bndP (loadQ false 1 y0 s.h) fun y1 =>
  bndP (lenAQ false y1) fun y2 =>
  bndP (binQ .gtr y2 ((.int .i64 0) : AV)) fun y3 =>
  k (.mk x1 .top .top .top .top .top .top y3 .top .top .top .top .top) s
noncomputable def S51r2 {R : Type} (call : Nat → List AV → M AV) : W51 → Nat → AS → (W51 → AS → Option R) → Option R := @W51.rec (fun _ => Nat → AS → (W51 → AS → Option R) → Option R) fun x1 x2 x3 x4 x5 x6 x8 x12 x27 x28 x29 x30 x35 base s k =>
  bndP (fldA 2 x1) fun y0 =>
  bndP (loadQ false 1 y0 s.h) fun y1 =>
  bndO (quietQ call 81 [y1] s) fun y2 s =>
  bndP (extrQ y2 0) fun y3 =>
  bndP (extrQ y2 1) fun y4 =>
  k (.mk x1 .top .top y3 y4 .top .top .top .top .top .top .top .top) s
noncomputable def S51r3 {R : Type} (call : Nat → List AV → M AV) : W51 → Nat → AS → (W51 → AS → Option R) → Option R := @W51.rec (fun _ => Nat → AS → (W51 → AS → Option R) → Option R) fun x1 x2 x3 x4 x5 x6 x8 x12 x27 x28 x29 x30 x35 base s k =>
  bndP (fldA 0 x1) fun y0 =>
  bndP (loadQ false 1 y0 s.h) fun y1 =>
  bndP (binQ .add y1 ((.str [32, 61, 32]) : AV)) fun y2 =>
  bndP (binQ .add y2 x4) fun y3 =>
  bndP (binQ .add y3 ((.str [59]) : AV)) fun y4 =>
  k (.mk .top y4 x5 .top .top .top .top .top .top .top .top .top .top) s
noncomputable def S51r4 {R : Type} (call : Nat → List AV → M AV) : W51 → Nat → AS → (W51 → AS → Option R) → Option R := @W51.rec (fun _ => Nat → AS → (W51 → AS → Option R) → Option R) fun x1 x2 x3 x4 x5 x6 x8 x12 x27 x28 x29 x30 x35 base s k =>
  k (.mk x1 .top .top .top .top (.nils : AV) .top .top .top .top .top .top .top) s
noncomputable def S51r5 {R : Type} (call : Nat → List AV → M AV) : W51 → Nat → AS → (W51 → AS → Option R) → Option R := @W51.rec (fun _ => Nat → AS → (W51 → AS → Option R) → Option R) fun x1 x2 x3 x4 x5 x6 x8 x12 x27 x28 x29 x30 x35 base s k =>
  bndP (fldA 1 x1) fun y0 =>
  bndP (loadQ false 1 y0 s.h) fun y1 =>
  bndP (lenAQ false y1) fun y2 =>
  k (.mk x1 .top .top .top .top x6 .top .top y1 y2 ((.int .i64 0) : AV) .top .top) s
noncomputable def S51r6 {R : Type} (call : Nat → List AV → M AV) : W51 → Nat → AS → (W51 → AS → Option R) → Option R := @W51.rec (fun _ => Nat → AS → (W51 → AS → Option R) → Option R) fun x1 x2 x3 x4 x5 x6 x8 x12 x27 x28 x29 x30 x35 base s k =>
  bndP (binQ .lss x29 x28) fun y0 =>
  k (.mk x1 .top .top .top .top x6 .top .top x27 x28 x29 y0 .top) s
noncomputable def S51r7 {R : Type} (call : Nat → List AV → M AV) : W51 → Nat → AS → (W51 → AS → Option R) → Option R := @W51.rec (fun _ => Nat → AS → (W51 → AS → Option R) → Option R) fun x1 x2 x3 x4 x5 x6 x8 x12 x27 x28 x29 x30 x35 base s k =>
  bndP (idxQ 3 x27 x29) fun y0 =>
  bndP (loadQ true 3 y0 s.h) fun y1 =>
  bndO (newQ (base + 2) (allocB [(.str []), (.str []), (.str [])] (base + 2)) s) fun y2 s =>
  bndO (storeQ y2 y1 3 s) fun _ s =>
  k (.mk x1 .top .top .top .top x6 y2 .top x27 x28 x29 .top .top) s
noncomputable def S51r8 {R : Type} (call : Nat → List AV → M AV) : W51 → Nat → AS → (W51 → AS → Option R) → Option R := @W51.rec (fun _ => Nat → AS → (W51 → AS → Option R) → Option R) fun x1 x2 x3 x4 x5 x6 x8 x12 x27 x28 x29 x30 x35 base s k =>
  bndP (fldA 2 x8) fun y0 =>
  bndP (loadQ false 1 y0 s.h) fun y1 =>
  bndP (binQ .neq y1 ((.str []) : AV)) fun y2 =>
  k (.mk x1 .top .top .top .top x6 x8 .top x27 x28 x29 .top y2) s
noncomputable def S51r9 {R : Type} (call : Nat → List AV → M AV) : W51 → Nat → AS → (W51 → AS → Option R) → Option R := @W51.rec (fun _ => Nat → AS → (W51 → AS → Option R) → Option R) fun x1 x2 x3 x4 x5 x6 x8 x12 x27 x28 x29 x30 x35 base s k =>
  bndP (fldA 0 x8) fun y0 =>
  bndP (loadQ false 1 y0 s.h) fun y1 =>
  bndP (fldA 2 x8) fun y2 =>
  bndP (loadQ false 1 y2 s.h) fun y3 =>
  bndP (binQ .add ((.str [35]) : AV) y3) fun y4 =>
  bndP (binQ .add y1 y4) fun y5 =>
  bndP (fldA 0 x8) fun y6 =>
  bndO (storeQ y6 y5 1 s) fun _ s =>
  k (.mk x1 .top .top .top .top x6 x8 .top x27 x28 x29 .top .top) s
noncomputable def S51r10 {R : Type} (call : Nat → List AV → M AV) : W51 → Nat → AS → (W51 → AS → Option R) → Option R := @W51.rec (fun _ => Nat → AS → (W51 → AS → Option R) → Option R) fun x1 x2 x3 x4 x5 x6 x8 x12 x27 x28 x29 x30 x35 base s k =>
  bndP (fldA 0 x8) fun y0 =>
  bndP (loadQ false 1 y0 s.h) fun y1 =>
  bndP (rowsA [(.str [])] 1 [(0, y1)]) fun y2 =>
  bndO (appQ (base + 4) 1 16 x6 y2 s) fun y3 s =>
  k (.mk x1 .top .top .top .top y3 .top .top x27 x28 x29 .top .top) s
noncomputable def S51r11 {R : Type} (call : Nat → List AV → M AV) : W51 → Nat → AS → (W51 → AS → Option R) → Option R := @W51.rec (fun _ => Nat → AS → (W51 → AS → Option R) → Option R) fun x1 x2 x3 x4 x5 x6 x8 x12 x27 x28 x29 x30 x35 base s k =>
  bndP (binQ .add x29 ((.int .i64 1) : AV)) fun y0 =>
  k (.mk x1 .top .top .top .top x6 .top .top x27 x28 y0 .top .top) s
noncomputable def S51b12 {R : Type} (call : Nat → List AV → M AV) (fuel : Nat) : SC W51 W51 R := sSeq (sReg 1 (S51r6 call)) (sSeq (sCond (@W51.rec (fun _ => AV) fun _ _ _ _ _ _ _ _ _ _ _ x30 _ => x30) (sSkip) (sExit 0)) (sSeq (sBlock 1 (sSeq (sReg 4 (S51r7 call)) (sSeq (sSeq (sReg 3 (S51r8 call)) (sCond (@W51.rec (fun _ => AV) fun _ _ _ _ _ _ _ _ _ _ _ _ x35 => x35) (sReg 8 (S51r9 call)) (sSkip))) (sReg 6 (S51r10 call))))) (sReg 2 (S51r11 call))))
noncomputable def S51r13 {R : Type} (call : Nat → List AV → M AV) : W51 → Nat → AS → (W51 → AS → Option R) → Option R := @W51.rec (fun _ => Nat → AS → (W51 → AS → Option R) → Option R) fun x1 x2 x3 x4 x5 x6 x8 x12 x27 x28 x29 x30 x35 base s k =>
  bndP (fldA 0 x1) fun y0 =>
  bndP (loadQ false 1 y0 s.h) fun y1 =>
  bndP (binQ .add y1 ((.str [58, 32]) : AV)) fun y2 =>
  bndO (quietQ call 82 [x6, ((.str [32, 124, 32]) : AV)] s) fun y3 s =>
  bndP (binQ .add y2 y3) fun y4 =>
  bndP (binQ .add y4 ((.str [59]) : AV)) fun y5 =>
  k (.mk .top y5 ((.bool true) : AV) .top .top .top .top .top .top .top .top .top .top) s
noncomputable def S51c {R : Type} (call : Nat → List AV → M AV) (fuel : Nat) : SC V51 W51 R := sSeq (sReg 3 (S51r0 call)) (sSeq (sSeq (sReg 4 (S51r1 call)) (sCond (@W51.rec (fun _ => AV) fun _ _ _ _ _ _ _ x12 _ _ _ _ _ => x12) (sSeq (sReg 8 (S51r2 call)) (sSeq (sReg 9 (S51r3 call)) (sRet))) (sSkip))) (sSeq (sReg 1 (S51r4 call)) (sSeq (sSeq (sReg 4 (S51r5 call)) (sBlock 0 (sLoop fuel (S51b12 call fuel)))) (sSeq (sReg 9 (S51r13 call)) (sRet)))))
noncomputable def S51e : Ex → W51 → AS → Option (AV × AS) := fun e w s => (@W51.rec (fun _ => Option (AV × AS)) fun _ x2 x3 _ _ _ _ _ _ _ _ _ _ => @Ex.rec (fun _ => Option (AV × AS)) (some (.tup [x2, x3], s)) (fun _ => none) (some (.tup [x2, x3], s)) e) w
noncomputable def S51 (call : Nat → List AV → M AV) (fuel : Nat) (args : List AV) (s : AS) : Option (AV × AS) := match args with
  | [x0] => S51c call fuel x0 s S51e
  | _ => none
theorem S51_sim (call : Nat → List AV → M AV) (fuel : Nat) : Sim (R := AV × AS) call fuel mi51 mo51 A51.code (S51c call fuel) := by
  refine sim_seq (sim_reg (fun x0 _ _ _ => by kernel_rfl)) (sim_seq (sim_seq (sim_reg (fun ⟨x1, x2, x3, x4, x5, x6, x8, x12, x27, x28, x29, x30, x35⟩ _ _ _ => by kernel_rfl)) (sim_cond (fun ⟨x1, x2, x3, x4, x5, x6, x8, x12, x27, x28, x29, x30, x35⟩ => by kernel_rfl) (sim_seq (sim_reg (fun ⟨x1, x2, x3, x4, x5, x6, x8, x12, x27, x28, x29, x30, x35⟩ _ _ _ => by kernel_rfl)) (sim_seq (sim_reg (fun ⟨x1, x2, x3, x4, x5, x6, x8, x12, x27, x28, x29, x30, x35⟩ _ _ _ => by kernel_rfl)) (sim_ret))) (sim_skip))) (sim_seq (sim_reg (fun ⟨x1, x2, x3, x4, x5, x6, x8, x12, x27, x28, x29, x30, x35⟩ _ _ _ => by kernel_rfl)) (sim_seq (sim_seq (sim_reg (fun ⟨x1, x2, x3, x4, x5, x6, x8, x12, x27, x28, x29, x30, x35⟩ _ _ _ => by kernel_rfl)) (sim_block (sim_loop (sim_seq (sim_reg (fun ⟨x1, x2, x3, x4, x5, x6, x8, x12, x27, x28, x29, x30, x35⟩ _ _ _ => by kernel_rfl)) (sim_seq (sim_cond (fun ⟨x1, x2, x3, x4, x5, x6, x8, x12, x27, x28, x29, x30, x35⟩ => by kernel_rfl) (sim_skip) (sim_exit)) (sim_seq (sim_block (sim_seq (sim_reg (fun ⟨x1, x2, x3, x4, x5, x6, x8, x12, x27, x28, x29, x30, x35⟩ _ _ _ => by kernel_rfl)) (sim_seq (sim_seq (sim_reg (fun ⟨x1, x2, x3, x4, x5, x6, x8, x12, x27, x28, x29, x30, x35⟩ _ _ _ => by kernel_rfl)) (sim_cond (fun ⟨x1, x2, x3, x4, x5, x6, x8, x12, x27, x28, x29, x30, x35⟩ => by kernel_rfl) (sim_reg (fun ⟨x1, x2, x3, x4, x5, x6, x8, x12, x27, x28, x29, x30, x35⟩ _ _ _ => by kernel_rfl)) (sim_skip))) (sim_reg (fun ⟨x1, x2, x3, x4, x5, x6, x8, x12, x27, x28, x29, x30, x35⟩ _ _ _ => by kernel_rfl))))) (sim_reg (fun ⟨x1, x2, x3, x4, x5, x6, x8, x12, x27, x28, x29, x30, x35⟩ _ _ _ => by kernel_rfl)))))))) (sim_seq (sim_reg (fun ⟨x1, x2, x3, x4, x5, x6, x8, x12, x27, x28, x29, x30, x35⟩ _ _ _ => by kernel_rfl)) (sim_ret)))))
theorem S51_ok (call : Nat → List AV → M AV) (fuel : Nat) (args : List AV) (s : AS) : afn call fuel A51 args s = S51 call fuel args s := by
  rcases args with _ | ⟨x0, _ | ⟨x1, r⟩⟩
  · kernel_rfl
  · exact (afn_sim (S51_sim call fuel) (v := x0) (e2 := S51e) (by kernel_rfl) (by kernel_rfl) (fun e w s => by cases w; cases e <;> kernel_rfl)).trans (by kernel_rfl)
  · kernel_rfl
def A52 : AFn := { nargs := 1, ntmps := 8, res := [.tmp 2], code := .seq (.ops [⟨0, (some 2), none, .p (.mv (.const (.int .i64 0))), []⟩] 1 [0]) (.seq (.ops [⟨0, (some 3), none, .p (.mv (.tmp 0)), []⟩, ⟨1, (some 4), none, .p (.nilchk (.tmp 3)), []⟩, ⟨2, (some 5), none, .p (.fld 1 (.tmp 4)), []⟩, ⟨3, (some 6), none, .r (.load false 1 (.tmp 5)), []⟩, ⟨4, (some 7), none, .p (.lenS false (.tmp 6)), []⟩, ⟨5, (some 2), none, .p (.mv (.tmp 7)), []⟩] 6 [2]) (.ret)) }
def N52 : Notes := { note := fun _ => none, keep := fun | 1 => [2] | 0 => [0] | _ => [] }
theorem A52_ok : cFn Try.prog qf N52 Try.f52 = some A52 := by kernel_rfl
inductive W52 where
  | mk (x0 x2 : AV)
abbrev V52 := AV
def mo52 : W52 → Fr := fun ⟨x0, x2⟩ => [x0, .top, x2, .top, .top, .top, .top, .top]
def mi52 : V52 → Fr := fun x0 => [x0, .tup [], .tup [], .tup [], .tup [], .tup [], .tup [], .tup []]
noncomputable def S52r0 {R : Type} (call : Nat → List AV → M AV) : V52 → Nat → AS → (W52 → AS → Option R) → Option R := fun x0 base s k =>
  k (.mk x0 .top) s
noncomputable def S52r1 {R : Type} (call : Nat → List AV → M AV) : W52 → Nat → AS → (W52 → AS → Option R) → Option R := @W52.rec (fun _ => Nat → AS → (W52 → AS → Option R) → Option R) fun x0 x2 base s k =>
  bndP (nilchkA x0) fun y0 =>
  bndP (fldA 1 y0) fun y1 =>
  bndP (loadQ false 1 y1 s.h) fun y2 =>
  bndP (lenAQ false y2) fun y3 =>
  k (.mk .top y3) s
noncomputable def S52c {R : Type} (call : Nat → List AV → M AV) (fuel : Nat) : SC V52 W52 R := sSeq (sReg 1 (S52r0 call)) (sSeq (sReg 6 (S52r1 call)) (sRet))
noncomputable def S52e : Ex → W52 → AS → Option (AV × AS) := fun e w s => (@W52.rec (fun _ => Option (AV × AS)) fun _ x2 => @Ex.rec (fun _ => Option (AV × AS)) (some (x2, s)) (fun _ => none) (some (x2, s)) e) w
noncomputable def S52 (call : Nat → List AV → M AV) (fuel : Nat) (args : List AV) (s : AS) : Option (AV × AS) := match args with
  | [x0] => S52c call fuel x0 s S52e
  | _ => none
theorem S52_sim (call : Nat → List AV → M AV) (fuel : Nat) : Sim (R := AV × AS) call fuel mi52 mo52 A52.code (S52c call fuel) := by
  refine sim_seq (sim_reg (fun x0 _ _ _ => by kernel_rfl)) (sim_seq (sim_reg (fun ⟨x0, x2⟩ _ _ _ => by kernel_rfl)) (sim_ret))
theorem S52_ok (call : Nat → List AV → M AV) (fuel : Nat) (args : List AV) (s : AS) : afn call fuel A52 args s = S52 call fuel args s := by
  rcases args with _ | ⟨x0, _ | ⟨x1, r⟩⟩
  · kernel_rfl
  · exact (afn_sim (S52_sim call fuel) (v := x0) (e2 := S52e) (by kernel_rfl) (by kernel_rfl) (fun e w s => by cases w; cases e <;> kernel_rfl)).trans (by kernel_rfl)
  · kernel_rfl
def A54 : AFn := { nargs := 1, ntmps := 32, res := [.tmp 2], code := .seq (.ops [⟨0, (some 2), none, .p (.mv (.const (.int .i64 0))), []⟩] 1 [0]) (.seq (.ops [⟨0, (some 3), none, .p (.mv (.const (.int .i64 0))), []⟩] 1 [0, 3]) (.block 0 (.loop (.block 1 (.seq (.ops [⟨0, (some 6), none, .p (.mv (.tmp 0)), []⟩, ⟨1, (some 7), none, .p (.mv (.tmp 3)), []⟩, ⟨2, (some 8), none, .p (.cuts (.tmp 6) (some (.tmp 7)) none), []⟩, ⟨3, (some 4), none, .p (.mv (.tmp 8)), []⟩] 4 [0, 3, 4]) (.block 2 (.seq (.ops [⟨0, (some 11), none, .p (.mv (.tmp 4)), []⟩, ⟨1, (some 12), none, .e (.call true 83 [.tmp 11, .const (.str [47, 47])]), []⟩, ⟨2, (some 10), none, .p (.mv (.tmp 12)), []⟩] 3 [0, 3, 4, 10]) (.cond (.tmp 10) (.seq (.ops [⟨0, (some 13), none, .p (.mv (.tmp 4)), []⟩, ⟨1, (some 14), none, .e (.call true 84 [.tmp 13, .const (.str [10])]), []⟩, ⟨2, (some 5), none, .p (.mv (.tmp 14)), []⟩] 3 [0, 3, 5]) (.seq (.seq (.ops [⟨0, (some 15), none, .p (.mv (.tmp 5)), []⟩, ⟨1, (some 16), none, .p (.bin .lss (.tmp 15) (.const (.int .i64 0))), []⟩] 2 [0, 3, 5, 16]) (.cond (.tmp 16) (.seq (.ops [⟨0, (some 17), none, .p (.mv (.tmp 0)), []⟩, ⟨1, (some 18), none, .p (.lenS true (.tmp 17)), []⟩, ⟨2, (some 2), none, .p (.mv (.tmp 18)), []⟩] 3 [2]) (.ret)) (.skip))) (.ops [⟨0, (some 19), none, .p (.mv (.tmp 3)), []⟩, ⟨1, (some 20), none, .p (.mv (.tmp 5)), []⟩, ⟨2, (some 21), none, .p (.bin .add (.tmp 19) (.tmp 20)), []⟩, ⟨3, (some 3), none, .p (.mv (.tmp 21)), []⟩] 4 [0, 3]))) (.seq (.ops [⟨0, (some 23), none, .p (.mv (.tmp 4)), []⟩, ⟨1, (some 24), none, .p (.bin .neq (.tmp 23) (.const (.str []))), []⟩, ⟨2, (some 25), none, .p (.mv (.tmp 24)), []⟩, ⟨3, (some 26), (some (25, true)), .p (.mv (.tmp 4)), []⟩, ⟨4, (some 27), (some (25, true)), .p (.cuts (.tmp 26) none (some (.const (.int .i64 1)))), []⟩, ⟨5, (some 28), (some (25, true)), .e (.call true 85 [.const (.str [32, 9, 13, 10]), .tmp 27]), []⟩, ⟨6, (some 29), none, .p (.pick (.tmp 25) (.tmp 28) (.const (.bool false))), []⟩, ⟨7, (some 22), none, .p (.mv (.tmp 29)), []⟩] 8 [0, 3, 22]) (.cond (.tmp 22) (.ops [⟨0, (some 30), none, .p (.mv (.tmp 3)), []⟩, ⟨1, (some 31), none, .p (.bin .add (.tmp 30) (.const (.int .i64 1))), []⟩, ⟨2, (some 3), none, .p (.mv (.tmp 31)), []⟩] 3 [0, 3]) (.seq (.ops [⟨0, (some 9), none, .p (.mv (.tmp 3)), []⟩, ⟨1, (some 2), none, .p (.mv (.tmp 9)), []⟩] 2 [2]) (.ret)))))))))))) }
def N54 : Notes := { note := fun _ => none, keep := fun | 8 => [0, 3] | 7 => [2] | 6 => [0, 3, 5, 16] | 5 => [0, 3, 5] | 10 => [0, 3] | 3 => [2] | 9 => [0, 3, 22] | 4 => [0, 3, 4, 10] | 2 => [0, 3, 4] | 1 => [0, 3] | 0 => [0] | _ => [] }
theorem A54_ok : cFn Try.prog qf N54 Try.f54 = some A54 := by kernel_rfl
inductive W54 where
  | mk (x0 x2 x3 x4 x5 x10 x16 x22 : AV)
abbrev V54 := AV
def mo54 : W54 → Fr := fun ⟨x0, x2, x3, x4, x5, x10, x16, x22⟩ => [x0, .top, x2, x3, x4, x5, .top, .top, .top, .top, x10, .top, .top, .top, .top, .top, x16, .top, .top, .top, .top, .top, x22, .top, .top, .top, .top, .top, .top, .top, .top, .top]
def mi54 : V54 → Fr := fun x0 => [x0, .tup [], .tup [], .tup [], .tup [], .tup [], .tup [], .tup [], .tup [], .tup [], .tup [], .tup [], .tup [], .tup [], .tup [], .tup [], .tup [], .tup [], .tup [], .tup [], .tup [], .tup [], .tup [], .tup [], .tup [], .tup [], .tup [], .tup [], .tup [], .tup [], .tup [], .tup []]
noncomputable def S54r0 {R : Type} (call : Nat → List AV → M AV) : V54 → Nat → AS → (W54 → AS → Option R) → Option R := fun x0 base s k =>
  k (.mk x0 .top .top .top .top .top .top .top) s
noncomputable def S54r1 {R : Type} (call : Nat → List AV → M AV) : W54 → Nat → AS → (W54 → AS → Option R) → Option R := @W54.rec (fun _ => Nat → AS → (W54 → AS → Option R) → Option R) fun x0 x2 x3 x4 x5 x10 x16 x22 base s k =>
  k (.mk x0 .top ((.int .i64 0) : AV) .top .top .top .top .top) s
noncomputable def S54r2 {R : Type} (call : Nat → List AV → M AV) : W54 → Nat → AS → (W54 → AS → Option R) → Option R := @W54.rec (fun _ => Nat → AS → (W54 → AS → Option R) → Option R) fun x0 x2 x3 x4 x5 x10 x16 x22 base s k =>
  bndP (cutsQ x0 (some x3) none) fun y0 =>
  k (.mk x0 .top x3 y0 .top .top .top .top) s
noncomputable def S54r3 {R : Type} (call : Nat → List AV → M AV) : W54 → Nat → AS → (W54 → AS → Option R) → Option R := @W54.rec (fun _ => Nat → AS → (W54 → AS → Option R) → Option R) fun x0 x2 x3 x4 x5 x10 x16 x22 base s k =>
  bndO (quietQ call 83 [x4, ((.str [47, 47]) : AV)] s) fun y0 s =>
  k (.mk x0 .top x3 x4 .top y0 .top .top) s
noncomputable def S54r4 {R : Type} (call : Nat → List AV → M AV) : W54 → Nat → AS → (W54 → AS → Option R) → Option R := @W54.rec (fun _ => Nat → AS → (W54 → AS → Option R) → Option R) fun x0 x2 x3 x4 x5 x10 x16 x22 base s k =>
  bndO (quietQ call 84 [x4, ((.str [10]) : AV)] s) fun y0 s =>
  k (.mk x0 .top x3 .top y0 .top .top .top) s
noncomputable def S54r5 {R : Type} (call : Nat → List AV → M AV) : W54 → Nat → AS → (W54 → AS → Option R) → Option R := @W54.rec (fun _ => Nat → AS → (W54 → AS → Option R) → Option R) fun x0 x2 x3 x4 x5 x10 x16 x22 base s k =>
  bndP (binQ .lss x5 ((.int .i64 0) : AV)) fun y0 =>
  k (.mk x0 .top x3 .top x5 .top y0 .top) s
noncomputable def S54r6 {R : Type} (call : Nat → List AV → M AV) : W54 → Nat → AS → (W54 → AS → Option R) → Option R := @W54.rec (fun _ => Nat → AS → (W54 → AS → Option R) → Option R) fun x0 x2 x3 x4 x5 x10 x16 x22 base s k =>
  bndP (lenAQ true x0) fun y0 =>
  k (.mk .top y0 .top .top .top .top .top .top) s
noncomputable def S54r7 {R : Type} (call : Nat → List AV → M AV) : W54 → Nat → AS → (W54 → AS → Option R) → Option R := @W54.rec (fun _ => Nat → AS → (W54 → AS → Option R) → Option R) fun x0 x2 x3 x4 x5 x10 x16 x22 base s k =>
  bndP (binQ .add x3 x5) fun y0 =>
  k (.mk x0 .top y0 .top .top .top .top .top) s
noncomputable def S54r8 {R : Type} (call : Nat → List AV → M AV) : W54 → Nat → AS → (W54 → AS → Option R) → Option R := @W54.rec (fun _ => Nat → AS → (W54 → AS → Option R) → Option R) fun x0 x2 x3 x4 x5 x10 x16 x22 base s k =>
  bndP (binQ .neq x4 ((.str []) : AV)) fun y0 =>
  bndO (gd (wantG y0 true) (fun s => (pureO (some x4) s)) s) fun y1 s =>
  bndO (gd (wantG y0 true) (fun s => (pureO (cutsQ y1 none (some ((.int .i64 1) : AV))) s)) s) fun y2 s =>
  bndO (gd (wantG y0 true) (fun s => (quietQ call 85 [((.str [32, 9, 13, 10]) : AV), y2] s)) s) fun y3 s =>
  bndP (pickA y0 y3 ((.bool false) : AV)) fun y4 =>
  k (.mk x0 .top x3 .top .top .top .top y4) s
noncomputable def S54r9 {R : Type} (call : Nat → List AV → M AV) : W54 → Nat → AS → (W54 → AS → Option R) → Option R := @W54.rec (fun _ => Nat → AS → (W54 → AS → Option R) → Option R) fun x0 x2 x3 x4 x5 x10 x16 x22 base s k =>
  bndP (binQ .add x3 ((.int .i64 1) : AV)) fun y0 =>
  k (.mk x0 .top y0 .top .top .top .top .top) s
noncomputable def S54r10 {R : Type} (call : Nat → List AV → M AV) : W54 → Nat → AS → (W54 → AS → Option R) → Option R := @W54.rec (fun _ => Nat → AS → (W54 → AS → Option R) → Option R) fun x0 x2 x3 x4 x5 x10 x16 x22 base s k =>
  k (.mk .top x3 .top .top .top .top .top .top) s
noncomputable def S54b11 {R : Type} (call : Nat → List AV → M AV) (fuel : Nat) : SC W54 W54 R := sBlock 1 (sSeq (sReg 4 (S54r2 call)) (sBlock 2 (sSeq (sReg 3 (S54r3 call)) (sCond (@W54.rec (fun _ => AV) fun _ _ _ _ _ x10 _ _ => x10) (sSeq (sReg 3 (S54r4 call)) (sSeq (sSeq (sReg 2 (S54r5 call)) (sCond (@W54.rec (fun _ => AV) fun _ _ _ _ _ _ x16 _ => x16) (sSeq (sReg 3 (S54r6 call)) (sRet)) (sSkip))) (sReg 4 (S54r7 call)))) (sSeq (sReg 8 (S54r8 call)) (sCond (@W54.rec (fun _ => AV) fun _ _ _ _ _ _ _ x22 => x22) (sReg 3 (S54r9 call)) (sSeq (sReg 2 (S54r10 call)) (sRet))))))))
noncomputable def S54c {R : Type} (call : Nat → List AV → M AV) (fuel : Nat) : SC V54 W54 R := sSeq (sReg 1 (S54r0 call)) (sSeq (sReg 1 (S54r1 call)) (sBlock 0 (sLoop fuel (S54b11 call fuel))))
noncomputable def S54e : Ex → W54 → AS → Option (AV × AS) := fun e w s => (@W54.rec (fun _ => Option (AV × AS)) fun _ x2 _ _ _ _ _ _ => @Ex.rec (fun _ => Option (AV × AS)) (some (x2, s)) (fun _ => none) (some (x2, s)) e) w
noncomputable def S54 (call : Nat → List AV → M AV) (fuel : Nat) (args : List AV) (s : AS) : Option (AV × AS) := match args with
  | [x0] => S54c call fuel x0 s S54e
  | _ => none
theorem S54_sim (call : Nat → List AV → M AV) (fuel : Nat) : Sim (R := AV × AS) call fuel mi54 mo54 A54.code (S54c call fuel) := by
  refine sim_seq (sim_reg (fun x0 _ _ _ => by kernel_rfl)) (sim_seq (sim_reg (fun ⟨x0, x2, x3, x4, x5, x10, x16, x22⟩ _ _ _ => by kernel_rfl)) (sim_block (sim_loop (sim_block (sim_seq (sim_reg (fun ⟨x0, x2, x3, x4, x5, x10, x16, x22⟩ _ _ _ => by kernel_rfl)) (sim_block (sim_seq (sim_reg (fun ⟨x0, x2, x3, x4, x5, x10, x16, x22⟩ _ _ _ => by kernel_rfl)) (sim_cond (fun ⟨x0, x2, x3, x4, x5, x10, x16, x22⟩ => by kernel_rfl) (sim_seq (sim_reg (fun ⟨x0, x2, x3, x4, x5, x10, x16, x22⟩ _ _ _ => by kernel_rfl)) (sim_seq (sim_seq (sim_reg (fun ⟨x0, x2, x3, x4, x5, x10, x16, x22⟩ _ _ _ => by kernel_rfl)) (sim_cond (fun ⟨x0, x2, x3, x4, x5, x10, x16, x22⟩ => by kernel_rfl) (sim_seq (sim_reg (fun ⟨x0, x2, x3, x4, x5, x10, x16, x22⟩ _ _ _ => by kernel_rfl)) (sim_ret)) (sim_skip))) (sim_reg (fun ⟨x0, x2, x3, x4, x5, x10, x16, x22⟩ _ _ _ => by kernel_rfl)))) (sim_seq (sim_reg (fun ⟨x0, x2, x3, x4, x5, x10, x16, x22⟩ _ _ _ => by kernel_rfl)) (sim_cond (fun ⟨x0, x2, x3, x4, x5, x10, x16, x22⟩ => by kernel_rfl) (sim_reg (fun ⟨x0, x2, x3, x4, x5, x10, x16, x22⟩ _ _ _ => by kernel_rfl)) (sim_seq (sim_reg (fun ⟨x0, x2, x3, x4, x5, x10, x16, x22⟩ _ _ _ => by kernel_rfl)) (sim_ret))))))))))))
theorem S54_ok (call : Nat → List AV → M AV) (fuel : Nat) (args : List AV) (s : AS) : afn call fuel A54 args s = S54 call fuel args s := by
  rcases args with _ | ⟨x0, _ | ⟨x1, r⟩⟩
  · kernel_rfl
  · exact (afn_sim (S54_sim call fuel) (v := x0) (e2 := S54e) (by kernel_rfl) (by kernel_rfl) (fun e w s => by cases w; cases e <;> kernel_rfl)).trans (by kernel_rfl)
  · kernel_rfl
def A55 : AFn := { nargs := 1, ntmps := 22, res := [.cell 2 true 3, .tmp 3], code := .seq (.ops [⟨0, (some 2), none, .l (.alloc [.int .i64 0, .int .i64 0, .str []]), []⟩, ⟨1, (some 3), none, .p (.mv (.const (.bool false))), []⟩] 2 [0, 2]) (.seq (.seq (.ops [⟨0, (some 5), none, .p (.mv (.tmp 0)), []⟩, ⟨1, (some 6), none, .e (.call true 86 [.tmp 5]), []⟩, ⟨2, (some 4), none, .p (.mv (.tmp 6)), []⟩] 3 [0, 2, 4]) (.seq (.ops [⟨0, (some 7), none, .p (.mv (.tmp 4)), []⟩, ⟨1, (some 8), none, .p (.bin .gtr (.tmp 7) (.const (.int .i64 0))), []⟩] 2 [0, 2, 4, 8]) (.cond (.tmp 8) (.seq (.ops [⟨0, (some 9), none, .p (.mv (.tmp 0)), []⟩, ⟨1, (some 10), none, .p (.mv (.tmp 4)), []⟩, ⟨2, (some 11), none, .p (.cuts (.tmp 9) none (some (.tmp 10))), []⟩, ⟨3, (some 12), none, .p (.build [.int .i64 0, .int .i64 0, .str []] [(0, 1, .const (.int .i64 1)), (2, 1, .tmp 11)]), []⟩, ⟨4, none, none, .e (.store (.tmp 2) (.tmp 12) 3), []⟩, ⟨5, (some 3), none, .p (.mv (.const (.bool true))), []⟩] 6 [2, 3]) (.ret)) (.skip)))) (.seq (.seq (.ops [⟨0, (some 13), none, .p (.mv (.tmp 0)), []⟩, ⟨1, (some 14), none, .e (.call true 83 [.tmp 13, .const (.str [45, 62])]), []⟩] 2 [0, 2, 14]) (.cond (.tmp 14) (.seq (.ops [⟨0, (some 15), none, .p (.build [.int .i64 0, .int .i64 0, .str []] [(0, 1, .const (.int .i64 2)), (2, 1, .const (.str [45, 62]))]), []⟩, ⟨1, none, none, .e (.store (.tmp 2) (.tmp 15) 3), []⟩, ⟨2, (some 3), none, .p (.mv (.const (.bool true))), []⟩] 3 [2, 3]) (.ret)) (.skip))) (.seq (.ops [⟨0, (some 16), none, .p (.mv (.tmp 0)), []⟩, ⟨1, (some 17), none, .p (.cuts (.tmp 16) none (some (.const (.int .i64 1)))), []⟩, ⟨2, (some 18), none, .p (.build [.int .i64 0, .int .i64 0, .str []] [(0, 1, .const (.int .i64 2)), (2, 1, .tmp 17)]), []⟩, ⟨3, (some 19), none, .p (.mv (.tmp 0)), []⟩, ⟨4, (some 20), none, .p (.cuts (.tmp 19) none (some (.const (.int .i64 1)))), []⟩, ⟨5, (some 21), none, .e (.call true 85 [.const (.str [123, 125, 58, 59, 124, 35, 61, 43, 45, 38, 40, 41]), .tmp 20]), []⟩, ⟨6, none, none, .e (.store (.tmp 2) (.tmp 18) 3), []⟩, ⟨7, (some 3), none, .p (.mv (.tmp 21)), []⟩] 8 [2, 3]) (.ret)))) }
def N55 : Notes := { note := fun | 6 => some ⟨[0, 1, 2, 3, 4, 5, 6, 7], [0, 1, 3, 0, 8, 24, 63, 127], [[], [], [], [], [], [], [], []]⟩ | _ => none, keep := fun | 6 => [2, 3] | 5 => [2, 3] | 4 => [0, 2, 14] | 3 => [2, 3] | 2 => [0, 2, 4, 8] | 1 => [0, 2, 4] | 0 => [0, 2] | _ => [] }
theorem A55_ok : cFn Try.prog qf N55 Try.f55 = some A55 := by kernel_rfl
inductive W55 where
  | mk (x0 x2 x3 x4 x8 x14 : AV)
abbrev V55 := AV
def mo55 : W55 → Fr := fun ⟨x0, x2, x3, x4, x8, x14⟩ => [x0, .top, x2, x3, x4, .top, .top, .top, x8, .top, .top, .top, .top, .top, x14, .top, .top, .top, .top, .top, .top, .top]
def mi55 : V55 → Fr := fun x0 => [x0, .tup [], .tup [], .tup [], .tup [], .tup [], .tup [], .tup [], .tup [], .tup [], .tup [], .tup [], .tup [], .tup [], .tup [], .tup [], .tup [], .tup [], .tup [], .tup [], .tup [], .tup []]
noncomputable def S55r0 {R : Type} (call : Nat → List AV → M AV) : V55 → Nat → AS → (W55 → AS → Option R) → Option R := fun x0 base s k =>
  bndO (newQ (base + 0) (allocB [(.int .i64 0), (.int .i64 0), (.str [])] (base + 0)) s) fun y0 s =>
  k (.mk x0 y0 .top .top .top .top) s
noncomputable def S55r1 {R : Type} (call : Nat → List AV → M AV) : W55 → Nat → AS → (W55 → AS → Option R) → Option R := @W55.rec (fun _ => Nat → AS → (W55 → AS → Option R) → Option R) fun x0 x2 x3 x4 x8 x14 base s k =>
  bndO (quietQ call 86 [x0] s) fun y0 s =>
  k (.mk x0 x2 .top y0 .top .top) s
noncomputable def S55r2 {R : Type} (call : Nat → List AV → M AV) : W55 → Nat → AS → (W55 → AS → Option R) → Option R := @W55.rec (fun _ => Nat → AS → (W55 → AS → Option R) → Option R) fun x0 x2 x3 x4 x8 x14 base s k =>
  bndP (binQ .gtr x4 ((.int .i64 0) : AV)) fun y0 =>
  k (.mk x0 x2 .top x4 y0 .top) s
noncomputable def S55r3 {R : Type} (call : Nat → List AV → M AV) : W55 → Nat → AS → (W55 → AS → Option R) → Option R := @W55.rec (fun _ => Nat → AS → (W55 → AS → Option R) → Option R) fun x0 x2 x3 x4 x8 x14 base s k =>
  bndP (cutsQ x0 none (some x4)) fun y0 =>
  bndP (buildA [(.int .i64 0), (.int .i64 0), (.str [])] [(0, 1, ((.int .i64 1) : AV)), (2, 1, y0)]) fun y1 =>
  bndO (storeQ x2 y1 3 s) fun _ s =>
  k (.mk .top x2 ((.bool true) : AV) .top .top .top) s
noncomputable def S55r4 {R : Type} (call : Nat → List AV → M AV) : W55 → Nat → AS → (W55 → AS → Option R) → Option R := @W55.rec (fun _ => Nat → AS → (W55 → AS → Option R) → Option R) fun x0 x2 x3 x4 x8 x14 base s k =>
  bndO (quietQ call 83 [x0, ((.str [45, 62]) : AV)] s) fun y0 s =>
  k (.mk x0 x2 .top .top .top y0) s
noncomputable def S55r5 {R : Type} (call : Nat → List AV → M AV) : W55 → Nat → AS → (W55 → AS → Option R) → Option R := @W55.rec (fun _ => Nat → AS → (W55 → AS → Option R) → Option R) fun x0 x2 x3 x4 x8 x14 base s k =>
  bndP (buildA [(.int .i64 0), (.int .i64 0), (.str [])] [(0, 1, ((.int .i64 2) : AV)), (2, 1, ((.str [45, 62]) : AV))]) fun y0 =>
  bndO (storeQ x2 y0 3 s) fun _ s =>
  k (.mk .top x2 ((.bool true) : AV) .top .top .top) s
noncomputable def S55r6 {R : Type} (call : Nat → List AV → M AV) : W55 → Nat → AS → (W55 → AS → Option R) → Option R := @W55.rec (fun _ => Nat → AS → (W55 → AS → Option R) → Option R) fun x0 x2 x3 x4 x8 x14 base s k =>
  bndP (cutsQ x0 none (some ((.int .i64 1) : AV))) fun y0 =>
  bndP (buildA [(.int .i64 0), (.int .i64 0), (.str [])] [(0, 1, ((.int .i64 2) : AV)), (2, 1, y0)]) fun y1 =>
  bndP (cutsQ x0 none (some ((.int .i64 1) : AV))) fun y2 =>
  bndO (quietQ call 85 [((.str [123, 125, 58, 59, 124, 35, 61, 43, 45, 38, 40, 41]) : AV), y2] s) fun y3 s =>
  bndO (storeQ x2 y1 3 s) fun _ s =>
  k (.mk .top x2 y3 .top .top .top) s
noncomputable def S55c {R : Type} (call : Nat → List AV → M AV) (fuel : Nat) : SC V55 W55 R := sSeq (sReg 2 (S55r0 call)) (sSeq (sSeq (sReg 3 (S55r1 call)) (sSeq (sReg 2 (S55r2 call)) (sCond (@W55.rec (fun _ => AV) fun _ _ _ _ x8 _ => x8) (sSeq (sReg 6 (S55r3 call)) (sRet)) (sSkip)))) (sSeq (sSeq (sReg 2 (S55r4 call)) (sCond (@W55.rec (fun _ => AV) fun _ _ _ _ _ x14 => x14) (sSeq (sReg 3 (S55r5 call)) (sRet)) (sSkip))) (sSeq (sReg 8 (S55r6 call)) (sRet))))
noncomputable def S55e : Ex → W55 → AS → Option (AV × AS) := fun e w s => (@W55.rec (fun _ => Option (AV × AS)) fun _ x2 x3 _ _ _ => @Ex.rec (fun _ => Option (AV × AS)) (match resS [fun h => loadA true 3 x2 h, fun _ => some x3] s.h with | some vs => some (shut vs, s) | none => none) (fun _ => none) (match resS [fun h => loadA true 3 x2 h, fun _ => some x3] s.h with | some vs => some (shut vs, s) | none => none) e) w
noncomputable def S55 (call : Nat → List AV → M AV) (fuel : Nat) (args : List AV) (s : AS) : Option (AV × AS) := match args with
  | [x0] => S55c call fuel x0 s S55e
  | _ => none
theorem S55_sim (call : Nat → List AV → M AV) (fuel : Nat) : Sim (R := AV × AS) call fuel mi55 mo55 A55.code (S55c call fuel) := by
  refine sim_seq (sim_reg (fun x0 _ _ _ => by kernel_rfl)) (sim_seq (sim_seq (sim_reg (fun ⟨x0, x2, x3, x4, x8, x14⟩ _ _ _ => by kernel_rfl)) (sim_seq (sim_reg (fun ⟨x0, x2, x3, x4, x8, x14⟩ _ _ _ => by kernel_rfl)) (sim_cond (fun ⟨x0, x2, x3, x4, x8, x14⟩ => by kernel_rfl) (sim_seq (sim_reg (fun ⟨x0, x2, x3, x4, x8, x14⟩ _ _ _ => by kernel_rfl)) (sim_ret)) (sim_skip)))) (sim_seq (sim_seq (sim_reg (fun ⟨x0, x2, x3, x4, x8, x14⟩ _ _ _ => by kernel_rfl)) (sim_cond (fun ⟨x0, x2, x3, x4, x8, x14⟩ => by kernel_rfl) (sim_seq (sim_reg (fun ⟨x0, x2, x3, x4, x8, x14⟩ _ _ _ => by kernel_rfl)) (sim_ret)) (sim_skip))) (sim_seq (sim_reg (fun ⟨x0, x2, x3, x4, x8, x14⟩ _ _ _ => by kernel_rfl)) (sim_ret))))
theorem S55_ok (call : Nat → List AV → M AV) (fuel : Nat) (args : List AV) (s : AS) : afn call fuel A55 args s = S55 call fuel args s := by
  rcases args with _ | ⟨x0, _ | ⟨x1, r⟩⟩
  · kernel_rfl
  · exact (afn_sim (S55_sim call fuel) (v := x0) (e2 := S55e) (by kernel_rfl) (by kernel_rfl) (fun e w s => by cases w; cases e <;> kernel_rfl)).trans (by kernel_rfl)
  · kernel_rfl
def A56 : AFn := { nargs := 3, ntmps := 14, res := [.tmp 6], code := .seq (.ops [⟨0, (some 6), none, .p (.mv (.const (.bool false))), []⟩] 1 [0, 1, 2]) (.seq (.ops [⟨0, (some 7), none, .p (.mv (.tmp 1)), []⟩, ⟨1, (some 8), none, .p (.mv (.tmp 2)), []⟩, ⟨2, (some 9), none, .p (.bin .lss (.tmp 7) (.tmp 8)), []⟩, ⟨3, (some 10), none, .p (.mv (.tmp 9)), []⟩, ⟨4, (some 11), (some (10, false)), .p (.mv (.tmp 0)), []⟩, ⟨5, (some 12), (some (10, false)), .e (.call false 58 [.tmp 11, .const (.int .i64 8)]), []⟩, ⟨6, (some 13), none, .p (.pick (.tmp 10) (.const (.bool true)) (.tmp 12)), []⟩, ⟨7, (some 6), none, .p (.mv (.tmp 13)), []⟩] 8 [6]) (.ret)) }
def N56 : Notes := { note := fun _ => none, keep := fun | 1 => [6] | 0 => [0, 1, 2] | _ => [] }
theorem A56_ok : cFn Try.prog qf N56 Try.f56 = some A56 := by kernel_rfl
inductive W56 where
  | mk (x0 x1 x2 x6 : AV)
inductive V56 where
  | mk (x0 x1 x2 : AV)
def mo56 : W56 → Fr := fun ⟨x0, x1, x2, x6⟩ => [x0, x1, x2, .top, .top, .top, x6, .top, .top, .top, .top, .top, .top, .top]
def mi56 : V56 → Fr := fun ⟨x0, x1, x2⟩ => [x0, x1, x2, .tup [], .tup [], .tup [], .tup [], .tup [], .tup [], .tup [], .tup [], .tup [], .tup [], .tup []]
noncomputable def S56r0 {R : Type} (call : Nat → List AV → M AV) : V56 → Nat → AS → (W56 → AS → Option R) → Option R := @V56.rec (fun _ => Nat → AS → (W56 → AS → Option R) → Option R) fun x0 x1 x2 base s k =>
  k (.mk x0 x1 x2 .top) s
noncomputable def S56r1 {R : Type} (call : Nat → List AV → M AV) : W56 → Nat → AS → (W56 → AS → Option R) → Option R := @W56.rec (fun _ => Nat → AS → (W56 → AS → Option R) → Option R) fun x0 x1 x2 x6 base s k =>
  bndP (binQ .lss x1 x2) fun y0 =>
  bndO (gd (wantG y0 false) (fun s => (pureO (some x0) s)) s) fun y1 s =>
  bndO (gd (wantG y0 false) (fun s => (call 58 [y1, ((.int .i64 8) : AV)] s)) s) fun y2 s =>
  bndP (pickA y0 ((.bool true) : AV) y2) fun y3 =>
  k (.mk .top .top .top y3) s
noncomputable def S56c {R : Type} (call : Nat → List AV → M AV) (fuel : Nat) : SC V56 W56 R := sSeq (sReg 1 (S56r0 call)) (sSeq (sReg 8 (S56r1 call)) (sRet))
noncomputable def S56e : Ex → W56 → AS → Option (AV × AS) := fun e w s => (@W56.rec (fun _ => Option (AV × AS)) fun _ _ _ x6 => @Ex.rec (fun _ => Option (AV × AS)) (some (x6, s)) (fun _ => none) (some (x6, s)) e) w
noncomputable def S56 (call : Nat → List AV → M AV) (fuel : Nat) (args : List AV) (s : AS) : Option (AV × AS) := match args with
  | [x0, x1, x2] => S56c call fuel (.mk x0 x1 x2) s S56e
  | _ => none
theorem S56_sim (call : Nat → List AV → M AV) (fuel : Nat) : Sim (R := AV × AS) call fuel mi56 mo56 A56.code (S56c call fuel) := by
  refine sim_seq (sim_reg (fun ⟨x0, x1, x2⟩ _ _ _ => by kernel_rfl)) (sim_seq (sim_reg (fun ⟨x0, x1, x2, x6⟩ _ _ _ => by kernel_rfl)) (sim_ret))
theorem S56_ok (call : Nat → List AV → M AV) (fuel : Nat) (args : List AV) (s : AS) : afn call fuel A56 args s = S56 call fuel args s := by
  rcases args with _ | ⟨x0, _ | ⟨x1, _ | ⟨x2, _ | ⟨x3, r⟩⟩⟩⟩
  · kernel_rfl
  · kernel_rfl
  · kernel_rfl
  · exact (afn_sim (S56_sim call fuel) (v := (.mk x0 x1 x2)) (e2 := S56e) (by kernel_rfl) (by kernel_rfl) (fun e w s => by cases w; cases e <;> kernel_rfl)).trans (by kernel_rfl)
  · kernel_rfl
def A57 : AFn := { nargs := 1, ntmps := 14, res := [.tmp 2], code := .seq (.ops [⟨0, (some 2), none, .p (.mv (.const (.bool false))), []⟩] 1 [0]) (.seq (.ops [⟨0, (some 4), none, .p (.mv (.tmp 0)), []⟩, ⟨1, (some 5), none, .e (.call true 87 [.tmp 4]), []⟩, ⟨2, (some 3), none, .l (.alloc [.int .i64 0, .int .i64 0, .str []]), []⟩, ⟨3, none, none, .e (.store (.tmp 3) (.tmp 5) 3), []⟩] 4 [3]) (.seq (.ops [⟨0, (some 6), none, .p (.fld 0 (.tmp 3)), []⟩, ⟨1, (some 7), none, .r (.load false 1 (.tmp 6)), []⟩, ⟨2, (some 8), none, .p (.bin .eql (.tmp 7) (.const (.int .i64 1))), []⟩, ⟨3, (some 9), none, .p (.mv (.tmp 8)), []⟩, ⟨4, (some 10), (some (9, true)), .p (.fld 2 (.tmp 3)), []⟩, ⟨5, (some 11), (some (9, true)), .r (.load false 1 (.tmp 10)), []⟩, ⟨6, (some 12), (some (9, true)), .p (.bin .eql (.tmp 11) (.const (.str [116, 121, 112, 101]))), []⟩, ⟨7, (some 13), none, .p (.pick (.tmp 9) (.tmp 12) (.const (.bool false))), []⟩, ⟨8, (some 2), none, .p (.mv (.tmp 13)), []⟩] 9 [2]) (.ret))) }
def N57 : Notes := { note := fun _ => none, keep := fun | 2 => [2] | 1 => [3] | 0 => [0] | _ => [] }
theorem A57_ok : cFn Try.prog qf N57 Try.f57 = some A57 := by kernel_rfl
inductive W57 where
  | mk (x0 x2 x3 : AV)
abbrev V57 := AV
def mo57 : W57 → Fr := fun ⟨x0, x2, x3⟩ => [x0, .top, x2, x3, .top, .top, .top, .top, .top, .top, .top, .top, .top, .top]
def mi57 : V57 → Fr := fun x0 => [x0, .tup [], .tup [], .tup [], .tup [], .tup [], .tup [], .tup [], .tup [], .tup [], .tup [], .tup [], .tup [], .tup []]
noncomputable def S57r0 {R : Type} (call : Nat → List AV → M AV) : V57 → Nat → AS → (W57 → AS → Option R) → Option R := fun x0 base s k =>
  k (.mk x0 .top .top) s
noncomputable def S57r1 {R : Type} (call : Nat → List AV → M AV) : W57 → Nat → AS → (W57 → AS → Option R) → Option R := @W57.rec (fun _ => Nat → AS → (W57 → AS → Option R) → Option R) fun x0 x2 x3 base s k =>
  bndO (quietQ call 87 [x0] s) fun y0 s =>
  bndO (newQ (base + 2) (allocB [(.int .i64 0), (.int .i64 0), (.str [])] (base + 2)) s) fun y1 s =>
  bndO (storeQ y1 y0 3 s) fun _ s =>
  k (.mk .top .top y1) s
noncomputable def S57r2 {R : Type} (call : Nat → List AV → M AV) : W57 → Nat → AS → (W57 → AS → Option R) → Option R := @W57.rec (fun _ => Nat → AS → (W57 → AS → Option R) → Option R) fun x0 x2 x3 base s k =>
  bndP (fldA 0 x3) fun y0 =>
  bndP (loadQ false 1 y0 s.h) fun y1 =>
  bndP (binQ .eql y1 ((.int .i64 1) : AV)) fun y2 =>
  bndO (gd (wantG y2 true) (fun s => (pureO (fldA 2 x3) s)) s) fun y3 s =>
  bndO (gd (wantG y2 true) (fun s => (pureO (loadQ false 1 y3 s.h) s)) s) fun y4 s =>
  bndO (gd (wantG y2 true) (fun s => (pureO (binQ .eql y4 ((.str [116, 121, 112, 101]) : AV)) s)) s) fun y5 s =>
  bndP (pickA y2 y5 ((.bool false) : AV)) fun y6 =>
  k (.mk .top y6 .top) s
noncomputable def S57c {R : Type} (call : Nat → List AV → M AV) (fuel : Nat) : SC V57 W57 R := sSeq (sReg 1 (S57r0 call)) (sSeq (sReg 4 (S57r1 call)) (sSeq (sReg 9 (S57r2 call)) (sRet)))
noncomputable def S57e : Ex → W57 → AS → Option (AV × AS) := fun e w s => (@W57.rec (fun _ => Option (AV × AS)) fun _ x2 _ => @Ex.rec (fun _ => Option (AV × AS)) (some (x2, s)) (fun _ => none) (some (x2, s)) e) w
noncomputable def S57 (call : Nat → List AV → M AV) (fuel : Nat) (args : List AV) (s : AS) : Option (AV × AS) := match args with
  | [x0] => S57c call fuel x0 s S57e
  | _ => none
theorem S57_sim (call : Nat → List AV → M AV) (fuel : Nat) : Sim (R := AV × AS) call fuel mi57 mo57 A57.code (S57c call fuel) := by
  refine sim_seq (sim_reg (fun x0 _ _ _ => by kernel_rfl)) (sim_seq (sim_reg (fun ⟨x0, x2, x3⟩ _ _ _ => by kernel_rfl)) (sim_seq (sim_reg (fun ⟨x0, x2, x3⟩ _ _ _ => by kernel_rfl)) (sim_ret)))
theorem S57_ok (call : Nat → List AV → M AV) (fuel : Nat) (args : List AV) (s : AS) : afn call fuel A57 args s = S57 call fuel args s := by
  rcases args with _ | ⟨x0, _ | ⟨x1, r⟩⟩
  · kernel_rfl
  · exact (afn_sim (S57_sim call fuel) (v := x0) (e2 := S57e) (by kernel_rfl) (by kernel_rfl) (fun e w s => by cases w; cases e <;> kernel_rfl)).trans (by kernel_rfl)
  · kernel_rfl
def A58 : AFn := { nargs := 2, ntmps := 20, res := [.tmp 4], code := .seq (.ops [⟨0, (some 4), none, .p (.mv (.const (.bool false))), []⟩] 1 [0, 1]) (.seq (.seq (.ops [⟨0, (some 5), none, .p (.mv (.tmp 0)), []⟩, ⟨1, (some 6), none, .p (.nilchk (.tmp 5)), []⟩, ⟨2, (some 7), none, .p (.fld 3 (.tmp 6)), []⟩, ⟨3, (some 8), none, .r (.load false 1 (.tmp 7)), []⟩, ⟨4, (some 9), none, .p (.bin .eql (.tmp 8) (.const (.int .i64 0))), []⟩] 5 [0, 1, 9]) (.cond (.tmp 9) (.ops [⟨0, (some 10), none, .p (.mv (.tmp 0)), []⟩, ⟨1, (some 11), none, .p (.mv (.tmp 0)), []⟩, ⟨2, (some 12), none, .p (.mv (.tmp 1)), []⟩, ⟨3, (some 13), none, .p (.mv (.tmp 0)), []⟩, ⟨4, (some 14), none, .e (.call true 87 [.tmp 13]), []⟩, ⟨5, (some 15), none, .p (.part false 1 1 (.tmp 14)), []⟩, ⟨6, (some 16), none, .p (.nilchk (.tmp 10)), []⟩, ⟨7, (some 17), none, .p (.fld 3 (.tmp 16)), []⟩, ⟨8, none, none, .e (.store (.tmp 17) (.tmp 12) 1), []⟩, ⟨9, (some 18), none, .p (.nilchk (.tmp 11)), []⟩, ⟨10, (some 19), none, .p (.fld 2 (.tmp 18)), []⟩, ⟨11, none, none, .e (.store (.tmp 19) (.tmp 15) 1), []⟩] 12 []) (.skip))) (.seq (.ops [⟨0, (some 4), none, .p (.mv (.const (.bool false))), []⟩] 1 [4]) (.ret))) }
def N58 : Notes := { note := fun _ => none, keep := fun | 3 => [4] | 2 => [] | 1 => [0, 1, 9] | 0 => [0, 1] | _ => [] }
theorem A58_ok : cFn Try.prog qf N58 Try.f58 = some A58 := by kernel_rfl
inductive W58 where
  | mk (x0 x1 x4 x9 : AV)
inductive V58 where
  | mk (x0 x1 : AV)
def mo58 : W58 → Fr := fun ⟨x0, x1, x4, x9⟩ => [x0, x1, .top, .top, x4, .top, .top, .top, .top, x9, .top, .top, .top, .top, .top, .top, .top, .top, .top, .top]
def mi58 : V58 → Fr := fun ⟨x0, x1⟩ => [x0, x1, .tup [], .tup [], .tup [], .tup [], .tup [], .tup [], .tup [], .tup [], .tup [], .tup [], .tup [], .tup [], .tup [], .tup [], .tup [], .tup [], .tup [], .tup []]
noncomputable def S58r0 {R : Type} (call : Nat → List AV → M AV) : V58 → Nat → AS → (W58 → AS → Option R) → Option R := @V58.rec (fun _ => Nat → AS → (W58 → AS → Option R) → Option R) fun x0 x1 base s k =>
  k (.mk x0 x1 .top .top) s
noncomputable def S58r1 {R : Type} (call : Nat → List AV → M AV) : W58 → Nat → AS → (W58 → AS → Option R) → Option R := @W58.rec (fun _ => Nat → AS → (W58 → AS → Option R) → Option R) fun x0 x1 x4 x9 base s k =>
  bndP (nilchkA x0) fun y0 =>
  bndP (fldA 3 y0) fun y1 =>
  bndP (loadQ false 1 y1 s.h) fun y2 =>
  bndP (binQ .eql y2 ((.int .i64 0) : AV)) fun y3 =>
  k (.mk x0 x1 .top y3) s
noncomputable def S58r2 {R : Type} (call : Nat → List AV → M AV) : W58 → Nat → AS → (W58 → AS → Option R) → Option R := @W58.rec (fun _ => Nat → AS → (W58 → AS → Option R) → Option R) fun x0 x1 x4 x9 base s k =>
  bndO (quietQ call 87 [x0] s) fun y0 s =>
  bndP (partQ false 1 1 y0) fun y1 =>
  bndP (nilchkA x0) fun y2 =>
  bndP (fldA 3 y2) fun y3 =>
  bndO (storeQ y3 x1 1 s) fun _ s =>
  bndP (nilchkA x0) fun y4 =>
  bndP (fldA 2 y4) fun y5 =>
  bndO (storeQ y5 y1 1 s) fun _ s =>
  k (.mk .top .top .top .top) s
noncomputable def S58r3 {R : Type} (call : Nat → List AV → M AV) : W58 → Nat → AS → (W58 → AS → Option R) → Option R := @W58.rec (fun _ => Nat → AS → (W58 → AS → Option R) → Option R) fun x0 x1 x4 x9 base s k =>
  k (.mk .top .top ((.bool false) : AV) .top) s
noncomputable def S58c {R : Type} (call : Nat → List AV → M AV) (fuel : Nat) : SC V58 W58 R := sSeq (sReg 1 (S58r0 call)) (sSeq (sSeq (sReg 5 (S58r1 call)) (sCond (@W58.rec (fun _ => AV) fun _ _ _ x9 => x9) (sReg 12 (S58r2 call)) (sSkip))) (sSeq (sReg 1 (S58r3 call)) (sRet)))
noncomputable def S58e : Ex → W58 → AS → Option (AV × AS) := fun e w s => (@W58.rec (fun _ => Option (AV × AS)) fun _ _ x4 _ => @Ex.rec (fun _ => Option (AV × AS)) (some (x4, s)) (fun _ => none) (some (x4, s)) e) w
noncomputable def S58 (call : Nat → List AV → M AV) (fuel : Nat) (args : List AV) (s : AS) : Option (AV × AS) := match args with
  | [x0, x1] => S58c call fuel (.mk x0 x1) s S58e
  | _ => none
theorem S58_sim (call : Nat → List AV → M AV) (fuel : Nat) : Sim (R := AV × AS) call fuel mi58 mo58 A58.code (S58c call fuel) := by
  refine sim_seq (sim_reg (fun ⟨x0, x1⟩ _ _ _ => by kernel_rfl)) (sim_seq (sim_seq (sim_reg (fun ⟨x0, x1, x4, x9⟩ _ _ _ => by kernel_rfl)) (sim_cond (fun ⟨x0, x1, x4, x9⟩ => by kernel_rfl) (sim_reg (fun ⟨x0, x1, x4, x9⟩ _ _ _ => by kernel_rfl)) (sim_skip))) (sim_seq (sim_reg (fun ⟨x0, x1, x4, x9⟩ _ _ _ => by kernel_rfl)) (sim_ret)))
theorem S58_ok (call : Nat → List AV → M AV) (fuel : Nat) (args : List AV) (s : AS) : afn call fuel A58 args s = S58 call fuel args s := by
  rcases args with _ | ⟨x0, _ | ⟨x1, _ | ⟨x2, r⟩⟩⟩
  · kernel_rfl
  · kernel_rfl
  · exact (afn_sim (S58_sim call fuel) (v := (.mk x0 x1)) (e2 := S58e) (by kernel_rfl) (by kernel_rfl) (fun e w s => by cases w; cases e <;> kernel_rfl)).trans (by kernel_rfl)
  · kernel_rfl
def A59 : AFn := { nargs := 2, ntmps := 24, res := [.tmp 4], code := .seq (.ops [⟨0, (some 4), none, .p (.mv (.const (.bool false))), []⟩] 1 [0, 1]) (.seq (.seq (.ops [⟨0, (some 5), none, .p (.mv (.tmp 0)), []⟩, ⟨1, (some 6), none, .e (.call true 87 [.tmp 5]), []⟩, ⟨2, (some 7), none, .e (.call true 88 [.tmp 6]), []⟩, ⟨3, (some 8), none, .p (.notb (.tmp 7)), []⟩] 4 [0, 1, 8]) (.cond (.tmp 8) (.seq (.ops [⟨0, (some 9), none, .p (.mv (.tmp 0)), []⟩, ⟨1, (some 10), none, .e (.call false 58 [.tmp 9, .const (.int .i64 9)]), []⟩, ⟨2, (some 4), none, .p (.mv (.tmp 10)), []⟩] 3 [4]) (.ret)) (.skip))) (.seq (.ops [⟨0, (some 11), none, .p (.mv (.tmp 1)), []⟩, ⟨1, (some 12), none, .p (.mv (.tmp 0)), []⟩, ⟨2, (some 13), none, .e (.call true 87 [.tmp 12]), []⟩, ⟨3, (some 14), none, .p (.part false 2 1 (.tmp 13)), []⟩, ⟨4, (some 15), none, .p (.nilchk (.tmp 11)), []⟩, ⟨5, none, none, .e (.store (.tmp 15) (.tmp 14) 1), []⟩] 6 [0]) (.seq (.ops [⟨0, (some 16), none, .p (.mv (.tmp 0)), []⟩, ⟨1, (some 17), none, .p (.mv (.tmp 0)), []⟩, ⟨2, (some 18), none, .p (.nilchk (.tmp 17)), []⟩, ⟨3, (some 19), none, .p (.fld 0 (.tmp 18)), []⟩, ⟨4, (some 20), none, .r (.load false 1 (.tmp 19)), []⟩, ⟨5, (some 21), none, .p (.cut 3 (.tmp 20) (some (.const (.int .i64 1))) none none), []⟩, ⟨6, (some 22), none, .p (.nilchk (.tmp 16)), []⟩, ⟨7, (some 23), none, .p (.fld 0 (.tmp 22)), []⟩, ⟨8, none, none, .e (.store (.tmp 23) (.tmp 21) 1), []⟩] 9 []) (.seq (.ops [⟨0, (some 4), none, .p (.mv (.const (.bool true))), []⟩] 1 [4]) (.ret))))) }
def N59 : Notes := { note := fun _ => none, keep := fun | 5 => [4] | 4 => [] | 3 => [0] | 2 => [4] | 1 => [0, 1, 8] | 0 => [0, 1] | _ => [] }
theorem A59_ok : cFn Try.prog qf N59 Try.f59 = some A59 := by kernel_rfl
inductive W59 where
  | mk (x0 x1 x4 x8 : AV)
inductive V59 where
  | mk (x0 x1 : AV)
def mo59 : W59 → Fr := fun ⟨x0, x1, x4, x8⟩ => [x0, x1, .top, .top, x4, .top, .top, .top, x8, .top, .top, .top, .top, .top, .top, .top, .top, .top, .top, .top, .top, .top, .top, .top]
def mi59 : V59 → Fr := fun ⟨x0, x1⟩ => [x0, x1, .tup [], .tup [], .tup [], .tup [], .tup [], .tup [], .tup [], .tup [], .tup [], .tup [], .tup [], .tup [], .tup [], .tup [], .tup [], .tup [], .tup [], .tup [], .tup [], .tup [], .tup [], .tup []]
noncomputable def S59r0 {R : Type} (call : Nat → List AV → M AV) : V59 → Nat → AS → (W59 → AS → Option R) → Option R := @V59.rec (fun _ => Nat → AS → (W59 → AS → Option R) → Option R) fun x0 x1 base s k =>
  k (.mk x0 x1 .top .top) s
noncomputable def S59r1 {R : Type} (call : Nat → List AV → M AV) : W59 → Nat → AS → (W59 → AS → Option R) → Option R := @W59.rec (fun _ => Nat → AS → (W59 → AS → Option R) → Option R) fun x0 x1 x4 x8 base s k =>
  bndO (quietQ call 87 [x0] s) fun y0 s =>
  bndO (quietQ call 88 [y0] s) fun y1 s =>
  bndP (notA y1) fun y2 =>
  k (.mk x0 x1 .top y2) s
noncomputable def S59r2 {R : Type} (call : Nat → List AV → M AV) : W59 → Nat → AS → (W59 → AS → Option R) → Option R := @W59.rec (fun _ => Nat → AS → (W59 → AS → Option R) → Option R) fun x0 x1 x4 x8 base s k =>
  bndO (call 58 [x0, ((.int .i64 9) : AV)] s) fun y0 s =>
  k (.mk .top .top y0 .top) s
noncomputable def S59r3 {R : Type} (call : Nat → List AV → M AV) : W59 → Nat → AS → (W59 → AS → Option R) → Option R := @W59.rec (fun _ => Nat → AS → (W59 → AS → Option R) → Option R) fun x0 x1 x4 x8 base s k =>
  bndO (quietQ call 87 [x0] s) fun y0 s =>
  bndP (partQ false 2 1 y0) fun y1 =>
  bndP (nilchkA x1) fun y2 =>
  bndO (storeQ y2 y1 1 s) fun _ s =>
  k (.mk x0 .top .top .top) s
noncomputable def S59r4 {R : Type} (call : Nat → List AV → M AV) : W59 → Nat → AS → (W59 → AS → Option R) → Option R := @W59.rec (fun _ => Nat → AS → (W59 → AS → Option R) → Option R) fun x0 x1 x4 x8 base s k =>
  bndP (nilchkA x0) fun y0 =>
  bndP (fldA 0 y0) fun y1 =>
  bndP (loadQ false 1 y1 s.h) fun y2 =>
  bndP (strN (cutV 3 y2 (some ((.int .i64 1) : AV)) none none)) fun y3 =>
  bndP (nilchkA x0) fun y4 =>
  bndP (fldA 0 y4) fun y5 =>
  bndO (storeQ y5 y3 1 s) fun _ s =>
  k (.mk .top .top .top .top) s
noncomputable def S59r5 {R : Type} (call : Nat → List AV → M AV) : W59 → Nat → AS → (W59 → AS → Option R) → Option R := @W59.rec (fun _ => Nat → AS → (W59 → AS → Option R) → Option R) fun x0 x1 x4 x8 base s k =>
  k (.mk .top .top ((.bool true) : AV) .top) s
noncomputable def S59c {R : Type} (call : Nat → List AV → M AV) (fuel : Nat) : SC V59 W59 R := sSeq (sReg 1 (S59r0 call)) (sSeq (sSeq (sReg 4 (S59r1 call)) (sCond (@W59.rec (fun _ => AV) fun _ _ _ x8 => x8) (sSeq (sReg 3 (S59r2 call)) (sRet)) (sSkip))) (sSeq (sReg 6 (S59r3 call)) (sSeq (sReg 9 (S59r4 call)) (sSeq (sReg 1 (S59r5 call)) (sRet)))))
noncomputable def S59e : Ex → W59 → AS → Option (AV × AS) := fun e w s => (@W59.rec (fun _ => Option (AV × AS)) fun _ _ x4 _ => @Ex.rec (fun _ => Option (AV × AS)) (some (x4, s)) (fun _ => none) (some (x4, s)) e) w
noncomputable def S59 (call : Nat → List AV → M AV) (fuel : Nat) (args : List AV) (s : AS) : Option (AV × AS) := match args with
  | [x0, x1] => S59c call fuel (.mk x0 x1) s S59e
  | _ => none
theorem S59_sim (call : Nat → List AV → M AV) (fuel : Nat) : Sim (R := AV × AS) call fuel mi59 mo59 A59.code (S59c call fuel) := by
  refine sim_seq (sim_reg (fun ⟨x0, x1⟩ _ _ _ => by kernel_rfl)) (sim_seq (sim_seq (sim_reg (fun ⟨x0, x1, x4, x8⟩ _ _ _ => by kernel_rfl)) (sim_cond (fun ⟨x0, x1, x4, x8⟩ => by kernel_rfl) (sim_seq (sim_reg (fun ⟨x0, x1, x4, x8⟩ _ _ _ => by kernel_rfl)) (sim_ret)) (sim_skip))) (sim_seq (sim_reg (fun ⟨x0, x1, x4, x8⟩ _ _ _ => by kernel_rfl)) (sim_seq (sim_reg (fun ⟨x0, x1, x4, x8⟩ _ _ _ => by kernel_rfl)) (sim_seq (sim_reg (fun ⟨x0, x1, x4, x8⟩ _ _ _ => by kernel_rfl)) (sim_ret)))))
theorem S59_ok (call : Nat → List AV → M AV) (fuel : Nat) (args : List AV) (s : AS) : afn call fuel A59 args s = S59 call fuel args s := by
  rcases args with _ | ⟨x0, _ | ⟨x1, _ | ⟨x2, r⟩⟩⟩
  · kernel_rfl
  · kernel_rfl
  · exact (afn_sim (S59_sim call fuel) (v := (.mk x0 x1)) (e2 := S59e) (by kernel_rfl) (by kernel_rfl) (fun e w s => by cases w; cases e <;> kernel_rfl)).trans (by kernel_rfl)
  · kernel_rfl
def A60 : AFn := { nargs := 2, ntmps := 13, res := [.tmp 4], code := .seq (.ops [⟨0, (some 4), none, .p (.mv (.const (.bool false))), []⟩] 1 [0, 1]) (.seq (.ops [⟨0, (some 5), none, .p (.mv (.tmp 0)), []⟩, ⟨1, (some 6), none, .p (.mv (.tmp 1)), []⟩, ⟨2, (some 7), none, .e (.call true 89 [.tmp 5, .tmp 6]), []⟩, ⟨3, (some 8), none, .p (.mv (.tmp 7)), []⟩, ⟨4, (some 9), (some (8, true)), .p (.mv (.tmp 0)), []⟩, ⟨5, (some 10), (some (8, true)), .p (.mv (.tmp 1)), []⟩, ⟨6, (some 11), (some (8, true)), .e (.call false 90 [.tmp 9, .tmp 10]), []⟩, ⟨7, (some 12), none, .p (.pick (.tmp 8) (.tmp 11) (.const (.bool false))), []⟩, ⟨8, (some 4), none, .p (.mv (.tmp 12)), []⟩] 9 [4]) (.ret)) }
def N60 : Notes := { note := fun _ => none, keep := fun | 1 => [4] | 0 => [0, 1] | _ => [] }
theorem A60_ok : cFn Try.prog qf N60 Try.f60 = some A60 := by kernel_rfl
inductive W60 where
  | mk (x0 x1 x4 : AV)
inductive V60 where
  | mk (x0 x1 : AV)
def mo60 : W60 → Fr := fun ⟨x0, x1, x4⟩ => [x0, x1, .top, .top, x4, .top, .top, .top, .top, .top, .top, .top, .top]
def mi60 : V60 → Fr := fun ⟨x0, x1⟩ => [x0, x1, .tup [], .tup [], .tup [], .tup [], .tup [], .tup [], .tup [], .tup [], .tup [], .tup [], .tup []]
noncomputable def S60r0 {R : Type} (call : Nat → List AV → M AV) : V60 → Nat → AS → (W60 → AS → Option R) → Option R := @V60.rec (fun _ => Nat → AS → (W60 → AS → Option R) → Option R) fun x0 x1 base s k =>
  k (.mk x0 x1 .top) s
noncomputable def S60r1 {R : Type} (call : Nat → List AV → M AV) : W60 → Nat → AS → (W60 → AS → Option R) → Option R := @W60.rec (fun _ => Nat → AS → (W60 → AS → Option R) → Option R) fun x0 x1 x4 base s k =>
  bndO (quietQ call 89 [x0, x1] s) fun y0 s =>
  bndO (gd (wantG y0 true) (fun s => (pureO (some x0) s)) s) fun y1 s =>
  bndO (gd (wantG y0 true) (fun s => (pureO (some x1) s)) s) fun y2 s =>
  bndO (gd (wantG y0 true) (fun s => (call 90 [y1, y2] s)) s) fun y3 s =>
  bndP (pickA y0 y3 ((.bool false) : AV)) fun y4 =>
  k (.mk .top .top y4) s
noncomputable def S60c {R : Type} (call : Nat → List AV → M AV) (fuel : Nat) : SC V60 W60 R := sSeq (sReg 1 (S60r0 call)) (sSeq (sReg 9 (S60r1 call)) (sRet))
noncomputable def S60e : Ex → W60 → AS → Option (AV × AS) := fun e w s => (@W60.rec (fun _ => Option (AV × AS)) fun _ _ x4 => @Ex.rec (fun _ => Option (AV × AS)) (some (x4, s)) (fun _ => none) (some (x4, s)) e) w
noncomputable def S60 (call : Nat → List AV → M AV) (fuel : Nat) (args : List AV) (s : AS) : Option (AV × AS) := match args with
  | [x0, x1] => S60c call fuel (.mk x0 x1) s S60e
  | _ => none
theorem S60_sim (call : Nat → List AV → M AV) (fuel : Nat) : Sim (R := AV × AS) call fuel mi60 mo60 A60.code (S60c call fuel) := by
  refine sim_seq (sim_reg (fun ⟨x0, x1⟩ _ _ _ => by kernel_rfl)) (sim_seq (sim_reg (fun ⟨x0, x1, x4⟩ _ _ _ => by kernel_rfl)) (sim_ret))
theorem S60_ok (call : Nat → List AV → M AV) (fuel : Nat) (args : List AV) (s : AS) : afn call fuel A60 args s = S60 call fuel args s := by
  rcases args with _ | ⟨x0, _ | ⟨x1, _ | ⟨x2, r⟩⟩⟩
  · kernel_rfl
  · kernel_rfl
  · exact (afn_sim (S60_sim call fuel) (v := (.mk x0 x1)) (e2 := S60e) (by kernel_rfl) (by kernel_rfl) (fun e w s => by cases w; cases e <;> kernel_rfl)).trans (by kernel_rfl)
  · kernel_rfl
def A61 : AFn := { nargs := 2, ntmps := 53, res := [.tmp 4], code := .seq (.ops [⟨0, (some 4), none, .p (.mv (.const (.bool false))), []⟩] 1 [0, 1]) (.seq (.ops [⟨0, (some 5), none, .l (.alloc [.str [], .nils, .nils]), []⟩] 1 [0, 1, 5]) (.seq (.seq (.ops [⟨0, (some 6), none, .p (.mv (.tmp 0)), []⟩, ⟨1, (some 7), none, .p (.mv (.tmp 1)), []⟩, ⟨2, (some 8), none, .p (.nilchk (.tmp 7)), []⟩, ⟨3, (some 9), none, .p (.fld 1 (.tmp 8)), []⟩, ⟨4, (some 10), none, .r (.load false 1 (.tmp 9)), []⟩, ⟨5, (some 11), none, .p (.lenS false (.tmp 10)), []⟩, ⟨6, (some 12), none, .e (.call false 56 [.tmp 6, .tmp 11, .const (.int .i64 200)]), []⟩, ⟨7, (some 13), none, .p (.notb (.tmp 12)), []⟩, ⟨8, (some 14), none, .p (.mv (.tmp 13)), []⟩, ⟨9, (some 15), (some (14, false)), .p (.mv (.tmp 0)), []⟩, ⟨10, (some 16), (some (14, false)), .p (.fld 0 (.tmp 5)), []⟩, ⟨11, (some 17), (some (14, false)), .e (.call false 59 [.tmp 15, .tmp 16]), []⟩, ⟨12, (some 18), (some (14, false)), .p (.notb (.tmp 17)), []⟩, ⟨13, (some 19), none, .p (.pick (.tmp 14) (.const (.bool true)) (.tmp 18)), []⟩] 14 [0, 1, 5, 19]) (.cond (.tmp 19) (.seq (.ops [⟨0, (some 4), none, .p (.mv (.const (.bool false))), []⟩] 1 [4]) (.ret)) (.skip))) (.seq (.seq (.ops [⟨0, (some 20), none, .p (.mv (.tmp 0)), []⟩, ⟨1, (some 21), none, .e (.call false 60 [.tmp 20, .const (.str [61])]), []⟩] 2 [0, 1, 5, 21]) (.cond (.tmp 21) (.seq (.ops [⟨0, (some 22), none, .p (.mv (.tmp 0)), []⟩, ⟨1, (some 23), none, .p (.nilchk (.tmp 22)), []⟩, ⟨2, (some 24), none, .p (.fld 5 (.tmp 23)), []⟩, ⟨3, none, none, .e (.store (.tmp 24) (.const (.nils)) 1), []⟩] 4 [0, 1, 5]) (.seq (.seq (.ops [⟨0, (some 25), none, .p (.mv (.tmp 0)), []⟩, ⟨1, (some 26), none, .e (.call false 91 [.tmp 25]), []⟩, ⟨2, (some 27), none, .p (.notb (.tmp 26)), []⟩] 3 [0, 1, 5, 27]) (.cond (.tmp 27) (.seq (.ops [⟨0, (some 4), none, .p (.mv (.const (.bool false))), []⟩] 1 [4]) (.ret)) (.skip))) (.ops [⟨0, (some 28), none, .p (.mv (.tmp 0)), []⟩, ⟨1, (some 29), none, .p (.nilchk (.tmp 28)), []⟩, ⟨2, (some 30), none, .p (.fld 5 (.tmp 29)), []⟩, ⟨3, (some 31), none, .r (.load false 1 (.tmp 30)), []⟩, ⟨4, (some 32), none, .p (.fld 2 (.tmp 5)), []⟩, ⟨5, none, none, .e (.store (.tmp 32) (.tmp 31) 1), []⟩] 6 [0, 1, 5]))) (.seq (.ops [⟨0, (some 33), none, .p (.mv (.tmp 0)), []⟩, ⟨1, (some 34), none, .e (.call false 90 [.tmp 33, .const (.str [58])]), []⟩, ⟨2, (some 35), none, .p (.notb (.tmp 34)), []⟩, ⟨3, (some 36), none, .p (.mv (.tmp 35)), []⟩, ⟨4, (some 37), (some (36, false)), .p (.mv (.tmp 0)), []⟩, ⟨5, (some 38), (some (36, false)), .e (.call false 92 [.tmp 37, .tmp 5]), []⟩, ⟨6, (some 39), (some (36, false)), .p (.notb (.tmp 38)), []⟩, ⟨7, (some 40), none, .p (.pick (.tmp 36) (.const (.bool true)) (.tmp 39)), []⟩] 8 [0, 1, 5, 40]) (.cond (.tmp 40) (.seq (.ops [⟨0, (some 4), none, .p (.mv (.const (.bool false))), []⟩] 1 [4]) (.ret)) (.skip))))) (.seq (.ops [⟨0, (some 41), none, .p (.mv (.tmp 1)), []⟩, ⟨1, (some 42), none, .p (.mv (.tmp 1)), []⟩, ⟨2, (some 43), none, .p (.nilchk (.tmp 42)), []⟩, ⟨3, (some 44), none, .p (.fld 1 (.tmp 43)), []⟩, ⟨4, (some 45), none, .r (.load false 1 (.tmp 44)), []⟩, ⟨5, (some 46), none, .r (.load true 3 (.tmp 5)), []⟩, ⟨6, (some 47), none, .k { z := [.str [], .nils, .nils], len := 1, parts := [(0, .tmp 46)] }, []⟩, ⟨7, (some 48), none, .e (.append 3 64 (.tmp 45) (.tmp 47)), []⟩, ⟨8, (some 49), none, .p (.nilchk (.tmp 41)), []⟩, ⟨9, (some 50), none, .p (.fld 1 (.tmp 49)), []⟩, ⟨10, none, none, .e (.store (.tmp 50) (.tmp 48) 1), []⟩] 11 [0]) (.seq (.ops [⟨0, (some 51), none, .p (.mv (.tmp 0)), []⟩, ⟨1, (some 52), none, .e (.call false 90 [.tmp 51, .const (.str [59])]), []⟩, ⟨2, (some 4), none, .p (.mv (.tmp 52)), []⟩] 3 [4]) (.ret)))))) }
def N61 : Notes := { note := fun | 11 => some ⟨[0, 1, 2, 3, 4, 5, 6, 7, 8, 9, 10], [0, 0, 2, 6, 14, 0, 32, 126, 255, 511, 1023], [[], [], [], [], [], [], [], [], [], [], []]⟩ | _ => none, keep := fun | 12 => [4] | 11 => [0] | 8 => [0, 1, 5] | 7 => [4] | 6 => [0, 1, 5, 27] | 5 => [0, 1, 5] | 10 => [4] | 9 => [0, 1, 5, 40] | 4 => [0, 1, 5, 21] | 3 => [4] | 2 => [0, 1, 5, 19] | 1 => [0, 1, 5] | 0 => [0, 1] | _ => [] }
theorem A61_ok : cFn Try.prog qf N61 Try.f61 = some A61 := by kernel_rfl
inductive W61 where
  | mk (x0 x1 x4 x5 x19 x21 x27 x40 : AV)
inductive V61 where
  | mk (x0 x1 : AV)
def mo61 : W61 → Fr := fun ⟨x0, x1, x4, x5, x19, x21, x27, x40⟩ => [x0, x1, .top, .top, x4, x5, .top, .top, .top, .top, .top, .top, .top, .top, .top, .top, .top, .top, .top, x19, .top, x21, .top, .top, .top, .top, .top, x27, .top, .top, .top, .top, .top, .top, .top, .top, .top, .top, .top, .top, x40, .top, .top, .top, .top, .top, .top, .top, .top, .top, .top, .top, .top]
def mi61 : V61 → Fr := fun ⟨x0, x1⟩ => [x0, x1, .tup [], .tup [], .tup [], .tup [], .tup [], .tup [], .tup [], .tup [], .tup [], .tup [], .tup [], .tup [], .tup [], .tup [], .tup [], .tup [], .tup [], .tup [], .tup [], .tup [], .tup [], .tup [], .tup [], .tup [], .tup [], .tup [], .tup [], .tup [], .tup [], .tup [], .tup [], .tup [], .tup [], .tup [], .tup [], .tup [], .tup [], .tup [], .tup [], .tup [], .tup [], .tup [], .tup [], .tup [], .tup [], .tup [], .tup [], .tup [], .tup [], .tup [], .tup []]
noncomputable def S61r0 {R : Type} (call : Nat → List AV → M AV) : V61 → Nat → AS → (W61 → AS → Option R) → Option R := @V61.rec (fun _ => Nat → AS → (W61 → AS → Option R) → Option R) fun x0 x1 base s k =>
  k (.mk x0 x1 .top .top .top .top .top .top) s
noncomputable def S61r1 {R : Type} (call : Nat → List AV → M AV) : W61 → Nat → AS → (W61 → AS → Option R) → Option R := @W61.rec (fun _ => Nat → AS → (W61 → AS → Option R) → Option R) fun x0 x1 x4 x5 x19 x21 x27 x40 base s k =>
  bndO (newQ (base + 0) (allocB [(.str []), .nils, .nils] (base + 0)) s) fun y0 s =>
  k (.mk x0 x1 .top y0 .top .top .top .top) s
noncomputable def S61r2 {R : Type} (call : Nat → List AV → M AV) : W61 → Nat → AS → (W61 → AS → Option R) → Option R := @W61.rec (fun _ => Nat → AS → (W61 → AS → Option R) → Option R) fun x0 x1 x4 x5 x19 x21 x27 x40 base s k =>
  bndP (nilchkA x1) fun y0 =>
  bndP (fldA 1 y0) fun y1 =>
  bndP (loadQ false 1 y1 s.h) fun y2 =>
  bndP (lenAQ false y2) fun y3 =>
  bndO (call 56 [x0, y3, ((.int .i64 200) : AV)] s) fun y4 s =>
  bndP (notA y4) fun y5 =>
  bndO (gd (wantG y5 false) (fun s => (pureO (some x0) s)) s) fun y6 s =>
  bndO (gd (wantG y5 false) (fun s => (pureO (fldA 0 x5) s)) s) fun y7 s =>
  bndO (gd (wantG y5 false) (fun s => (call 59 [y6, y7] s)) s) fun y8 s =>
  bndO (gd (wantG y5 false) (fun s => (pureO (notA y8) s)) s) fun y9 s =>
  bndP (pickA y5 ((.bool true) : AV) y9) fun y10 =>
  k (.mk x0 x1 .top x5 y10 .top .top .top) s
noncomputable def S61r3 {R : Type} (call : Nat → List AV → M AV) : W61 → Nat → AS → (W61 → AS → Option R) → Option R := @W61.rec (fun _ => Nat → AS → (W61 → AS → Option R) → Option R) fun x0 x1 x4 x5 x19 x21 x27 x40 base s k =>
  k (.mk .top .top ((.bool false) : AV) .top .top .top .top .top) s
noncomputable def S61r4 {R : Type} (call : Nat → List AV → M AV) : W61 → Nat → AS → (W61 → AS → Option R) → Option R := @W61.rec (fun _ => Nat → AS → (W61 → AS → Option R) → Option R) fun x0 x1 x4 x5 x19 x21 x27 x40 base s k =>
  bndO (call 60 [x0, ((.str [61]) : AV)] s) fun y0 s =>
  k (.mk x0 x1 .top x5 .top y0 .top .top) s
noncomputable def S61r5 {R : Type} (call : Nat → List AV → M AV) : W61 → Nat → AS → (W61 → AS → Option R) → Option R := @W61.rec (fun _ => Nat → AS → (W61 → AS → Option R) → Option R) fun x0 x1 x4 x5 x19 x21 x27 x40 base s k =>
  bndP (nilchkA x0) fun y0 =>
  bndP (fldA 5 y0) fun y1 =>
  bndO (storeQ y1 (.nils : AV) 1 s) fun _ s =>
  k (.mk x0 x1 .top x5 .top .top .top .top) s
noncomputable def S61r6 {R : Type} (call : Nat → List AV → M AV) : W61 → Nat → AS → (W61 → AS → Option R) → Option R := @W61.rec (fun _ => Nat → AS → (W61 → AS → Option R) → Option R) fun x0 x1 x4 x5 x19 x21 x27 x40 base s k =>
  bndO (call 91 [x0] s) fun y0 s =>
  bndP (notA y0) fun y1 =>
  k (.mk x0 x1 .top x5 .top .top y1 .top) s
noncomputable def S61r7 {R : Type} (call : Nat → List AV → M AV) : W61 → Nat → AS → (W61 → AS → Option R) → Option R := @W61.rec (fun _ => Nat → AS → (W61 → AS → Option R) → Option R) fun x0 x1 x4 x5 x19 x21 x27 x40 base s k =>
  k (.mk .top .top ((.bool false) : AV) .top .top .top .top .top) s
noncomputable def S61r8 {R : Type} (call : Nat → List AV → M AV) : W61 → Nat → AS → (W61 → AS → Option R) → Option R := @W61.rec (fun _ => Nat → AS → (W61 → AS → Option R) → Option R) fun x0 x1 x4 x5 x19 x21 x27 x40 base s k =>
  bndP (nilchkA x0) fun y0 =>
  bndP (fldA 5 y0) fun y1 =>
  bndP (loadQ false 1 y1 s.h) fun y2 =>
  bndP (fldA 2 x5) fun y3 =>
  bndO (storeQ y3 y2 1 s) fun _ s =>
  k (.mk x0 x1 .top x5 .top .top .top .top) s
noncomputable def S61r9 {R : Type} (call : Nat → List AV → M AV) : W61 → Nat → AS → (W61 → AS → Option R) → Option R := @W61.rec (fun _ => Nat → AS → (W61 → AS → Option R) → Option R) fun x0 x1 x4 x5 x19 x21 x27 x40 base s k =>
  bndO (call 90 [x0, ((.str [58]) : AV)] s) fun y0 s =>
  bndP (notA y0) fun y1 =>
  bndO (gd (wantG y1 false) (fun s => (pureO (some x0) s)) s) fun y2 s =>
  bndO (gd (wantG y1 false) (fun s => (call 92 [y2, x5] s)) s) fun y3 s =>
  bndO (gd (wantG y1 false) (fun s => (pureO (notA y3) s)) s) fun y4 s =>
  bndP (pickA y1 ((.bool true) : AV) y4) fun y5 =>
  k (.mk x0 x1 .top x5 .top .top .top y5) s
noncomputable def S61r10 {R : Type} (call : Nat → List AV → M AV) : W61 → Nat → AS → (W61 → AS → Option R) → Option R := @W61.rec (fun _ => Nat → AS → (W61 → AS → Option R) → Option R) fun x0 x1 x4 x5 x19 x21 x27 x40 base s k =>
  k (.mk .top .top ((.bool false) : AV) .top .top .top .top .top) s
noncomputable def S61r11 {R : Type} (call : Nat → List AV → M AV) : W61 → Nat → AS → (W61 → AS → Option R) → Option R := @W61.rec (fun _ => Nat → AS → (W61 → AS → Option R) → Option R) fun x0 x1 x4 x5 x19 x21 x27 x40 base s k =>
  bndP (nilchkA x1) fun y0 =>
  bndP (fldA 1 y0) fun y1 =>
  bndP (loadQ false 1 y1 s.h) fun y2 =>
  bndP (loadQ true 3 x5 s.h) fun y3 =>
  bndP (rowsA [(.str []), .nils, .nils] 1 [(0, y3)]) fun y4 =>
  bndO (appQ (base + 7) 3 64 y2 y4 s) fun y5 s =>
  bndP (nilchkA x1) fun y6 =>
  bndP (fldA 1 y6) fun y7 =>
  bndO (storeQ y7 y5 1 s) fun _ s =>
  k (.mk x0 .top .top .top .top .top .top .top) s
noncomputable def S61r12 {R : Type} (call : Nat → List AV → M AV) : W61 → Nat → AS → (W61 → AS → Option R) → Option R := @W61.rec (fun _ => Nat → AS → (W61 → AS → Option R) → Option R) fun x0 x1 x4 x5 x19 x21 x27 x40 base s k =>
  bndO (call 90 [x0, ((.str [59]) : AV)] s) fun y0 s =>
  k (.mk .top .top y0 .top .top .top .top .top) s
noncomputable def S61c {R : Type} (call : Nat → List AV → M AV) (fuel : Nat) : SC V61 W61 R := sSeq (sReg 1 (S61r0 call)) (sSeq (sReg 1 (S61r1 call)) (sSeq (sSeq (sReg 14 (S61r2 call)) (sCond (@W61.rec (fun _ => AV) fun _ _ _ _ x19 _ _ _ => x19) (sSeq (sReg 1 (S61r3 call)) (sRet)) (sSkip))) (sSeq (sSeq (sReg 2 (S61r4 call)) (sCond (@W61.rec (fun _ => AV) fun _ _ _ _ _ x21 _ _ => x21) (sSeq (sReg 4 (S61r5 call)) (sSeq (sSeq (sReg 3 (S61r6 call)) (sCond (@W61.rec (fun _ => AV) fun _ _ _ _ _ _ x27 _ => x27) (sSeq (sReg 1 (S61r7 call)) (sRet)) (sSkip))) (sReg 6 (S61r8 call)))) (sSeq (sReg 8 (S61r9 call)) (sCond (@W61.rec (fun _ => AV) fun _ _ _ _ _ _ _ x40 => x40) (sSeq (sReg 1 (S61r10 call)) (sRet)) (sSkip))))) (sSeq (sReg 11 (S61r11 call)) (sSeq (sReg 3 (S61r12 call)) (sRet))))))
noncomputable def S61e : Ex → W61 → AS → Option (AV × AS) := fun e w s => (@W61.rec (fun _ => Option (AV × AS)) fun _ _ x4 _ _ _ _ _ => @Ex.rec (fun _ => Option (AV × AS)) (some (x4, s)) (fun _ => none) (some (x4, s)) e) w
noncomputable def S61 (call : Nat → List AV → M AV) (fuel : Nat) (args : List AV) (s : AS) : Option (AV × AS) := match args with
  | [x0, x1] => S61c call fuel (.mk x0 x1) s S61e
  | _ => none
theorem S61_sim (call : Nat → List AV → M AV) (fuel : Nat) : Sim (R := AV × AS) call fuel mi61 mo61 A61.code (S61c call fuel) := by
  refine sim_seq (sim_reg (fun ⟨x0, x1⟩ _ _ _ => by kernel_rfl)) (sim_seq (sim_reg (fun ⟨x0, x1, x4, x5, x19, x21, x27, x40⟩ _ _ _ => by kernel_rfl)) (sim_seq (sim_seq (sim_reg (fun ⟨x0, x1, x4, x5, x19, x21, x27, x40⟩ _ _ _ => by kernel_rfl)) (sim_cond (fun ⟨x0, x1, x4, x5, x19, x21, x27, x40⟩ => by kernel_rfl) (sim_seq (sim_reg (fun ⟨x0, x1, x4, x5, x19, x21, x27, x40⟩ _ _ _ => by kernel_rfl)) (sim_ret)) (sim_skip))) (sim_seq (sim_seq (sim_reg (fun ⟨x0, x1, x4, x5, x19, x21, x27, x40⟩ _ _ _ => by kernel_rfl)) (sim_cond (fun ⟨x0, x1, x4, x5, x19, x21, x27, x40⟩ => by kernel_rfl) (sim_seq (sim_reg (fun ⟨x0, x1, x4, x5, x19, x21, x27, x40⟩ _ _ _ => by kernel_rfl)) (sim_seq (sim_seq (sim_reg (fun ⟨x0, x1, x4, x5, x19, x21, x27, x40⟩ _ _ _ => by kernel_rfl)) (sim_cond (fun ⟨x0, x1, x4, x5, x19, x21, x27, x40⟩ => by kernel_rfl) (sim_seq (sim_reg (fun ⟨x0, x1, x4, x5, x19, x21, x27, x40⟩ _ _ _ => by kernel_rfl)) (sim_ret)) (sim_skip))) (sim_reg (fun ⟨x0, x1, x4, x5, x19, x21, x27, x40⟩ _ _ _ => by kernel_rfl)))) (sim_seq (sim_reg (fun ⟨x0, x1, x4, x5, x19, x21, x27, x40⟩ _ _ _ => by kernel_rfl)) (sim_cond (fun ⟨x0, x1, x4, x5, x19, x21, x27, x40⟩ => by kernel_rfl) (sim_seq (sim_reg (fun ⟨x0, x1, x4, x5, x19, x21, x27, x40⟩ _ _ _ => by kernel_rfl)) (sim_ret)) (sim_skip))))) (sim_seq (sim_reg (fun ⟨x0, x1, x4, x5, x19, x21, x27, x40⟩ _ _ _ => by kernel_rfl)) (sim_seq (sim_reg (fun ⟨x0, x1, x4, x5, x19, x21, x27, x40⟩ _ _ _ => by kernel_rfl)) (sim_ret))))))
theorem S61_ok (call : Nat → List AV → M AV) (fuel : Nat) (args : List AV) (s : AS) : afn call fuel A61 args s = S61 call fuel args s := by
  rcases args with _ | ⟨x0, _ | ⟨x1, _ | ⟨x2, r⟩⟩⟩
  · kernel_rfl
  · kernel_rfl
  · exact (afn_sim (S61_sim call fuel) (v := (.mk x0 x1)) (e2 := S61e) (by kernel_rfl) (by kernel_rfl) (fun e w s => by cases w; cases e <;> kernel_rfl)).trans (by kernel_rfl)
  · kernel_rfl
def A62 : AFn := { nargs := 3, ntmps := 32, res := [.tmp 6], code := .seq (.ops [⟨0, (some 6), none, .p (.mv (.const (.bool false))), []⟩] 1 [0, 1, 2]) (.seq (.seq (.ops [⟨0, (some 10), none, .p (.mv (.tmp 0)), []⟩, ⟨1, (some 11), none, .p (.lenS false (.tmp 10)), []⟩, ⟨2, (some 12), none, .p (.mv (.tmp 1)), []⟩, ⟨3, (some 13), none, .p (.lenS false (.tmp 12)), []⟩, ⟨4, (some 14), none, .p (.bin .neq (.tmp 11) (.tmp 13)), []⟩] 5 [0, 1, 2, 14]) (.cond (.tmp 14) (.seq (.ops [⟨0, (some 6), none, .p (.mv (.const (.bool false))), []⟩] 1 [6]) (.ret)) (.skip))) (.seq (.seq (.ops [⟨0, (some 15), none, .p (.mv (.tmp 0)), []⟩, ⟨1, (some 16), none, .p (.lenS false (.tmp 15)), []⟩, ⟨2, (some 17), none, .p (.mv (.const (.int .i64 0))), []⟩] 3 [1, 2, 15, 16, 17]) (.block 0 (.loop (.seq (.ops [⟨0, (some 18), none, .p (.bin .lss (.tmp 17) (.tmp 16)), []⟩] 1 [1, 2, 15, 16, 17, 18]) (.seq (.cond (.tmp 18) (.skip) (.exit 0)) (.seq (.block 1 (.seq (.ops [⟨0, (some 19), none, .p (.mv (.tmp 17)), []⟩, ⟨1, (some 20), none, .p (.idx 2 (.tmp 15) (.tmp 17)), []⟩, ⟨2, (some 21), none, .r (.load true 2 (.tmp 20)), []⟩, ⟨3, (some 8), none, .l (.alloc [.str [], .nils]), []⟩, ⟨4, (some 7), none, .p (.mv (.tmp 19)), []⟩, ⟨5, none, none, .e (.store (.tmp 8) (.tmp 21) 2), []⟩] 6 [1, 2, 7, 8, 15, 16, 17]) (.seq (.ops [⟨0, (some 22), none, .p (.mv (.tmp 1)), []⟩, ⟨1, (some 23), none, .p (.mv (.tmp 7)), []⟩, ⟨2, (some 24), none, .p (.idx 2 (.tmp 22) (.tmp 23)), []⟩, ⟨3, (some 25), none, .r (.load true 2 (.tmp 24)), []⟩, ⟨4, (some 9), none, .l (.alloc [.str [], .nils]), []⟩, ⟨5, none, none, .e (.store (.tmp 9) (.tmp 25) 2), []⟩] 6 [1, 2, 8, 9, 15, 16, 17]) (.seq (.ops [⟨0, (some 26), none, .p (.mv (.tmp 2)), []⟩, ⟨1, (some 27), none, .r (.load true 2 (.tmp 8)), []⟩, ⟨2, (some 28), none, .r (.load true 2 (.tmp 9)), []⟩, ⟨3, (some 29), none, .e (.callv true (.tmp 26) [.tmp 27, .tmp 28]), []⟩, ⟨4, (some 30), none, .p (.notb (.tmp 29)), []⟩] 5 [1, 2, 15, 16, 17, 30]) (.cond (.tmp 30) (.seq (.ops [⟨0, (some 6), none, .p (.mv (.const (.bool false))), []⟩] 1 [6]) (.ret)) (.skip)))))) (.ops [⟨0, (some 31), none, .p (.bin .add (.tmp 17) (.const (.int .i64 1))), []⟩, ⟨1, (some 17), none, .p (.mv (.tmp 31)), []⟩] 2 [1, 2, 15, 16, 17]))))))) (.seq (.ops [⟨0, (some 6), none, .p (.mv (.const (.bool true))), []⟩] 1 [6]) (.ret)))) }
def N62 : Notes := { note := fun _ => none, keep := fun | 10 => [6] | 9 => [1, 2, 15, 16, 17] | 8 => [6] | 7 => [1, 2, 15, 16, 17, 30] | 6 => [1, 2, 8, 9, 15, 16, 17] | 5 => [1, 2, 7, 8, 15, 16, 17] | 4 => [1, 2, 15, 16, 17, 18] | 3 => [1, 2, 15, 16, 17] | 2 => [6] | 1 => [0, 1, 2, 14] | 0 => [0, 1, 2] | _ => [] }
theorem A62_ok : cFn Try.prog qf N62 Try.f62 = some A62 := by kernel_rfl
inductive W62 where
  | mk (x0 x1 x2 x6 x7 x8 x9 x14 x15 x16 x17 x18 x30 : AV)
inductive V62 where
  | mk (x0 x1 x2 : AV)
def mo62 : W62 → Fr := fun ⟨x0, x1, x2, x6, x7, x8, x9, x14, x15, x16, x17, x18, x30⟩ => [x0, x1, x2, .top, .top, .top, x6, x7, x8, x9, .top, .top, .top, .top, x14, x15, x16, x17, x18, .top, .top, .top, .top, .top, .top, .top, .top, .top, .top, .top, x30, .top]
def mi62 : V62 → Fr := fun ⟨x0, x1, x2⟩ => [x0, x1, x2, .tup [], .tup [], .tup [], .tup [], .tup [], .tup [], .tup [], .tup [], .tup [], .tup [], .tup [], .tup [], .tup [], .tup [], .tup [], .tup [], .tup [], .tup [], .tup [], .tup [], .tup [], .tup [], .tup [], .tup [], .tup [], .tup [], .tup [], .tup [], .tup []]
noncomputable def S62r0 {R : Type} (call : Nat → List AV → M AV) : V62 → Nat → AS → (W62 → AS → Option R) → Option R := @V62.rec (fun _ => Nat → AS → (W62 → AS → Option R) → Option R) fun x0 x1 x2 base s k =>
  k (.mk x0 x1 x2 .top .top .top .top .top .top .top .top .top .top) s
noncomputable def S62r1 {R : Type} (call : Nat → List AV → M AV) : W62 → Nat → AS → (W62 → AS → Option R) → Option R := @W62.rec (fun _ => Nat → AS → (W62 → AS → Option R) → Option R) fun x0 x1 x2 x6 x7 x8 x9 x14 x15 x16 x17 x18 x30 base s k =>
  bndP (lenAQ false x0) fun y0 =>
  bndP (lenAQ false x1) fun y1 =>
  bndP (binQ .neq y0 y1) fun y2 =>
  k (.mk x0 x1 x2 .top .top .top .top y2 .top .top .top .top .top) s
noncomputable def S62r2 {R : Type} (call : Nat → List AV → M AV) : W62 → Nat → AS → (W62 → AS → Option R) → Option R := @W62.rec (fun _ => Nat → AS → (W62 → AS → Option R) → Option R) fun x0 x1 x2 x6 x7 x8 x9 x14 x15 x16 x17 x18 x30 base s k =>
  k (.mk .top .top .top ((.bool false) : AV) .top .top .top .top .top .top .top .top .top) s
noncomputable def S62r3 {R : Type} (call : Nat → List AV → M AV) : W62 → Nat → AS → (W62 → AS → Option R) → Option R := @W62.rec (fun _ => Nat → AS → (W62 → AS → Option R) → Option R) fun x0 x1 x2 x6 x7 x8 x9 x14 x15 x16 x17 x18 x30 base s k =>
  bndP (lenAQ false x0) fun y0 =>
  k (.mk .top x1 x2 .top .top .top .top .top x0 y0 ((.int .i64 0) : AV) .top .top) s
noncomputable def S62r4 {R : Type} (call : Nat → List AV → M AV) : W62 → Nat → AS → (W62 → AS → Option R) → Option R := @W62.rec (fun _ => Nat → AS → (W62 → AS → Option R) → Option R) fun x0 x1 x2 x6 x7 x8 x9 x14 x15 x16 x17 x18 x30 base s k =>
  bndP (binQ .lss x17 x16) fun y0 =>
  k (.mk .top x1 x2 .top .top .top .top .top x15 x16 x17 y0 .top) s
noncomputable def S62r5 {R : Type} (call : Nat → List AV → M AV) : W62 → Nat → AS → (W62 → AS → Option R) → Option R := @W62.rec (fun _ => Nat → AS → (W62 → AS → Option R) → Option R) fun x0 x1 x2 x6 x7 x8 x9 x14 x15 x16 x17 x18 x30 base s k =>
  bndP (idxQ 2 x15 x17) fun y0 =>
  bndP (loadQ true 2 y0 s.h) fun y1 =>
  bndO (newQ (base + 3) (allocB [(.str []), .nils] (base + 3)) s) fun y2 s =>
  bndO (storeQ y2 y1 2 s) fun _ s =>
  k (.mk .top x1 x2 .top x17 y2 .top .top x15 x16 x17 .top .top) s
noncomputable def S62r6 {R : Type} (call : Nat → List AV → M AV) : W62 → Nat → AS → (W62 → AS → Option R) → Option R := @W62.rec (fun _ => Nat → AS → (W62 → AS → Option R) → Option R) fun x0 x1 x2 x6 x7 x8 x9 x14 x15 x16 x17 x18 x30 base s k =>
  bndP (idxQ 2 x1 x7) fun y0 =>
  bndP (loadQ true 2 y0 s.h) fun y1 =>
  bndO (newQ (base + 4) (allocB [(.str []), .nils] (base + 4)) s) fun y2 s =>
  bndO (storeQ y2 y1 2 s) fun _ s =>
  k (.mk .top x1 x2 .top .top x8 y2 .top x15 x16 x17 .top .top) s
noncomputable def S62r7 {R : Type} (call : Nat → List AV → M AV) : W62 → Nat → AS → (W62 → AS → Option R) → Option R := @W62.rec (fun _ => Nat → AS → (W62 → AS → Option R) → Option R) fun x0 x1 x2 x6 x7 x8 x9 x14 x15 x16 x17 x18 x30 base s k =>
  bndP (loadQ true 2 x8 s.h) fun y0 =>
  bndP (loadQ true 2 x9 s.h) fun y1 =>
  bndO (callvQ call true x2 [y0, y1] s) fun y2 s =>
  bndP (notA y2) fun y3 =>
  k (.mk .top x1 x2 .top .top .top .top .top x15 x16 x17 .top y3) s
noncomputable def S62r8 {R : Type} (call : Nat → List AV → M AV) : W62 → Nat → AS → (W62 → AS → Option R) → Option R := @W62.rec (fun _ => Nat → AS → (W62 → AS → Option R) → Option R) fun x0 x1 x2 x6 x7 x8 x9 x14 x15 x16 x17 x18 x30 base s k =>
  k (.mk .top .top .top ((.bool false) : AV) .top .top .top .top .top .top .top .top .top) s
noncomputable def S62r9 {R : Type} (call : Nat → List AV → M AV) : W62 → Nat → AS → (W62 → AS → Option R) → Option R := @W62.rec (fun _ => Nat → AS → (W62 → AS → Option R) → Option R) fun x0 x1 x2 x6 x7 x8 x9 x14 x15 x16 x17 x18 x30 base s k =>
  bndP (binQ .add x17 ((.int .i64 1) : AV)) fun y0 =>
  k (.mk .top x1 x2 .top .top .top .top .top x15 x16 y0 .top .top) s
noncomputable def S62b10 {R : Type} (call : Nat → List AV → M AV) (fuel : Nat) : SC W62 W62 R := sSeq (sReg 1 (S62r4 call)) (sSeq (sCond (@W62.rec (fun _ => AV) fun _ _ _ _ _ _ _ _ _ _ _ x18 _ => x18) (sSkip) (sExit 0)) (sSeq (sBlock 1 (sSeq (sReg 6 (S62r5 call)) (sSeq (sReg 6 (S62r6 call)) (sSeq (sReg 5 (S62r7 call)) (sCond (@W62.rec (fun _ => AV) fun _ _ _ _ _ _ _ _ _ _ _ _ x30 => x30) (sSeq (sReg 1 (S62r8 call)) (sRet)) (sSkip)))))) (sReg 2 (S62r9 call))))
noncomputable def S62r11 {R : Type} (call : Nat → List AV → M AV) : W62 → Nat → AS → (W62 → AS → Option R) → Option R := @W62.rec (fun _ => Nat → AS → (W62 → AS → Option R) → Option R) fun x0 x1 x2 x6 x7 x8 x9 x14 x15 x16 x17 x18 x30 base s k =>
  k (.mk .top .top .top ((.bool true) : AV) .top .top .top .top .top .top .top .top .top) s
noncomputable def S62c {R : Type} (call : Nat → List AV → M AV) (fuel : Nat) : SC V62 W62 R := sSeq (sReg 1 (S62r0 call)) (sSeq (sSeq (sReg 5 (S62r1 call)) (sCond (@W62.rec (fun _ => AV) fun _ _ _ _ _ _ _ x14 _ _ _ _ _ => x14) (sSeq (sReg 1 (S62r2 call)) (sRet)) (sSkip))) (sSeq (sSeq (sReg 3 (S62r3 call)) (sBlock 0 (sLoop fuel (S62b10 call fuel)))) (sSeq (sReg 1 (S62r11 call)) (sRet))))
noncomputable def S62e : Ex → W62 → AS → Option (AV × AS) := fun e w s => (@W62.rec (fun _ => Option (AV × AS)) fun _ _ _ x6 _ _ _ _ _ _ _ _ _ => @Ex.rec (fun _ => Option (AV × AS)) (some (x6, s)) (fun _ => none) (some (x6, s)) e) w
noncomputable def S62 (call : Nat → List AV → M AV) (fuel : Nat) (args : List AV) (s : AS) : Option (AV × AS) := match args with
  | [x0, x1, x2] => S62c call fuel (.mk x0 x1 x2) s S62e
  | _ => none
theorem S62_sim (call : Nat → List AV → M AV) (fuel : Nat) : Sim (R := AV × AS) call fuel mi62 mo62 A62.code (S62c call fuel) := by
  refine sim_seq (sim_reg (fun ⟨x0, x1, x2⟩ _ _ _ => by kernel_rfl)) (sim_seq (sim_seq (sim_reg (fun ⟨x0, x1, x2, x6, x7, x8, x9, x14, x15, x16, x17, x18, x30⟩ _ _ _ => by kernel_rfl)) (sim_cond (fun ⟨x0, x1, x2, x6, x7, x8, x9, x14, x15, x16, x17, x18, x30⟩ => by kernel_rfl) (sim_seq (sim_reg (fun ⟨x0, x1, x2, x6, x7, x8, x9, x14, x15, x16, x17, x18, x30⟩ _ _ _ => by kernel_rfl)) (sim_ret)) (sim_skip))) (sim_seq (sim_seq (sim_reg (fun ⟨x0, x1, x2, x6, x7, x8, x9, x14, x15, x16, x17, x18, x30⟩ _ _ _ => by kernel_rfl)) (sim_block (sim_loop (sim_seq (sim_reg (fun ⟨x0, x1, x2, x6, x7, x8, x9, x14, x15, x16, x17, x18, x30⟩ _ _ _ => by kernel_rfl)) (sim_seq (sim_cond (fun ⟨x0, x1, x2, x6, x7, x8, x9, x14, x15, x16, x17, x18, x30⟩ => by kernel_rfl) (sim_skip) (sim_exit)) (sim_seq (sim_block (sim_seq (sim_reg (fun ⟨x0, x1, x2, x6, x7, x8, x9, x14, x15, x16, x17, x18, x30⟩ _ _ _ => by kernel_rfl)) (sim_seq (sim_reg (fun ⟨x0, x1, x2, x6, x7, x8, x9, x14, x15, x16, x17, x18, x30⟩ _ _ _ => by kernel_rfl)) (sim_seq (sim_reg (fun ⟨x0, x1, x2, x6, x7, x8, x9, x14, x15, x16, x17, x18, x30⟩ _ _ _ => by kernel_rfl)) (sim_cond (fun ⟨x0, x1, x2, x6, x7, x8, x9, x14, x15, x16, x17, x18, x30⟩ => by kernel_rfl) (sim_seq (sim_reg (fun ⟨x0, x1, x2, x6, x7, x8, x9, x14, x15, x16, x17, x18, x30⟩ _ _ _ => by kernel_rfl)) (sim_ret)) (sim_skip)))))) (sim_reg (fun ⟨x0, x1, x2, x6, x7, x8, x9, x14, x15, x16, x17, x18, x30⟩ _ _ _ => by kernel_rfl)))))))) (sim_seq (sim_reg (fun ⟨x0, x1, x2, x6, x7, x8, x9, x14, x15, x16, x17, x18, x30⟩ _ _ _ => by kernel_rfl)) (sim_ret))))
theorem S62_ok (call : Nat → List AV → M AV) (fuel : Nat) (args : List AV) (s : AS) : afn call fuel A62 args s = S62 call fuel args s := by
  rcases args with _ | ⟨x0, _ | ⟨x1, _ | ⟨x2, _ | ⟨x3, r⟩⟩⟩⟩
  · kernel_rfl
  · kernel_rfl
  · kernel_rfl
  · exact (afn_sim (S62_sim call fuel) (v := (.mk x0 x1 x2)) (e2 := S62e) (by kernel_rfl) (by kernel_rfl) (fun e w s => by cases w; cases e <;> kernel_rfl)).trans (by kernel_rfl)
  · kernel_rfl
def A63 : AFn := { nargs := 2, ntmps := 17, res := [.tmp 4], code := .seq (.ops [⟨0, (some 2), none, .l (.box (.tmp 0)), []⟩, ⟨1, (some 3), none, .l (.box (.tmp 1)), []⟩, ⟨2, (some 4), none, .p (.mv (.const (.bool false))), []⟩] 3 [2, 3]) (.seq (.ops [⟨0, (some 5), none, .p (.fld 0 (.tmp 2)), []⟩, ⟨1, (some 6), none, .r (.load false 1 (.tmp 5)), []⟩, ⟨2, (some 7), none, .p (.fld 0 (.tmp 3)), []⟩, ⟨3, (some 8), none, .r (.load false 1 (.tmp 7)), []⟩, ⟨4, (some 9), none, .p (.bin .eql (.tmp 6) (.tmp 8)), []⟩, ⟨5, (some 10), none, .p (.mv (.tmp 9)), []⟩, ⟨6, (some 11), (some (10, true)), .p (.fld 1 (.tmp 2)), []⟩, ⟨7, (some 12), (some (10, true)), .r (.load false 1 (.tmp 11)), []⟩, ⟨8, (some 13), (some (10, true)), .p (.fld 1 (.tmp 3)), []⟩, ⟨9, (some 14), (some (10, true)), .r (.load false 1 (.tmp 13)), []⟩, ⟨10, (some 15), (some (10, true)), .e (.call true 64 [.tmp 12, .tmp 14, .const (.fn 65 [])]), []⟩, ⟨11, (some 16), none, .p (.pick (.tmp 10) (.tmp 15) (.const (.bool false))), []⟩, ⟨12, (some 4), none, .p (.mv (.tmp 16)), []⟩] 13 [4]) (.ret)) }
def N63 : Notes := { note := fun _ => none, keep := fun | 1 => [4] | 0 => [2, 3] | _ => [] }
theorem A63_ok : cFn Try.prog qf N63 Try.f63 = some A63 := by kernel_rfl
inductive W63 where
  | mk (x2 x3 x4 : AV)
inductive V63 where
  | mk (x0 x1 : AV)
def mo63 : W63 → Fr := fun ⟨x2, x3, x4⟩ => [.top, .top, x2, x3, x4, .top, .top, .top, .top, .top, .top, .top, .top, .top, .top, .top, .top]
def mi63 : V63 → Fr := fun ⟨x0, x1⟩ => [x0, x1, .tup [], .tup [], .tup [], .tup [], .tup [], .tup [], .tup [], .tup [], .tup [], .tup [], .tup [], .tup [], .tup [], .tup [], .tup []]
noncomputable def S63r0 {R : Type} (call : Nat → List AV → M AV) : V63 → Nat → AS → (W63 → AS → Option R) → Option R := @V63.rec (fun _ => Nat → AS → (W63 → AS → Option R) → Option R) fun x0 x1 base s k =>
  bndO (newQ (base + 0) (boxB x0 (base + 0)) s) fun y0 s =>
  bndO (newQ (base + 1) (boxB x1 (base + 1)) s) fun y1 s =>
  k (.mk y0 y1 .top) s
noncomputable def S63r1 {R : Type} (call : Nat → List AV → M AV) : W63 → Nat → AS → (W63 → AS → Option R) → Option R := @W63.rec (fun _ => Nat → AS → (W63 → AS → Option R) → Option R) fun x2 x3 x4 base s k =>
  bndP (fldA 0 x2) fun y0 =>
  bndP (loadQ false 1 y0 s.h) fun y1 =>
  bndP (fldA 0 x3) fun y2 =>
  bndP (loadQ false 1 y2 s.h) fun y3 =>
  bndP (binQ .eql y1 y3) fun y4 =>
  bndO (gd (wantG y4 true) (fun s => (pureO (fldA 1 x2) s)) s) fun y5 s =>
  bndO (gd (wantG y4 true) (fun s => (pureO (loadQ false 1 y5 s.h) s)) s) fun y6 s =>
  bndO (gd (wantG y4 true) (fun s => (pureO (fldA 1 x3) s)) s) fun y7 s =>
  bndO (gd (wantG y4 true) (fun s => (pureO (loadQ false 1 y7 s.h) s)) s) fun y8 s =>
  bndO (gd (wantG y4 true) (fun s => (quietQ call 64 [y6, y8, ((.fn 65 []) : AV)] s)) s) fun y9 s =>
  bndP (pickA y4 y9 ((.bool false) : AV)) fun y10 =>
  k (.mk .top .top y10) s
noncomputable def S63c {R : Type} (call : Nat → List AV → M AV) (fuel : Nat) : SC V63 W63 R := sSeq (sReg 3 (S63r0 call)) (sSeq (sReg 13 (S63r1 call)) (sRet))
noncomputable def S63e : Ex → W63 → AS → Option (AV × AS) := fun e w s => (@W63.rec (fun _ => Option (AV × AS)) fun _ _ x4 => @Ex.rec (fun _ => Option (AV × AS)) (some (x4, s)) (fun _ => none) (some (x4, s)) e) w
noncomputable def S63 (call : Nat → List AV → M AV) (fuel : Nat) (args : List AV) (s : AS) : Option (AV × AS) := match args with
  | [x0, x1] => S63c call fuel (.mk x0 x1) s S63e
  | _ => none
theorem S63_sim (call : Nat → List AV → M AV) (fuel : Nat) : Sim (R := AV × AS) call fuel mi63 mo63 A63.code (S63c call fuel) := by
  refine sim_seq (sim_reg (fun ⟨x0, x1⟩ _ _ _ => by kernel_rfl)) (sim_seq (sim_reg (fun ⟨x2, x3, x4⟩ _ _ _ => by kernel_rfl)) (sim_ret))
theorem S63_ok (call : Nat → List AV → M AV) (fuel : Nat) (args : List AV) (s : AS) : afn call fuel A63 args s = S63 call fuel args s := by
  rcases args with _ | ⟨x0, _ | ⟨x1, _ | ⟨x2, r⟩⟩⟩
  · kernel_rfl
  · kernel_rfl
  · exact (afn_sim (S63_sim call fuel) (v := (.mk x0 x1)) (e2 := S63e) (by kernel_rfl) (by kernel_rfl) (fun e w s => by cases w; cases e <;> kernel_rfl)).trans (by kernel_rfl)
  · kernel_rfl
def A64 : AFn := { nargs := 3, ntmps := 32, res := [.tmp 6], code := .seq (.ops [⟨0, (some 6), none, .p (.mv (.const (.bool false))), []⟩] 1 [0, 1, 2]) (.seq (.seq (.ops [⟨0, (some 10), none, .p (.mv (.tmp 0)), []⟩, ⟨1, (some 11), none, .p (.lenS false (.tmp 10)), []⟩, ⟨2, (some 12), none, .p (.mv (.tmp 1)), []⟩, ⟨3, (some 13), none, .p (.lenS false (.tmp 12)), []⟩, ⟨4, (some 14), none, .p (.bin .neq (.tmp 11) (.tmp 13)), []⟩] 5 [0, 1, 2, 14]) (.cond (.tmp 14) (.seq (.ops [⟨0, (some 6), none, .p (.mv (.const (.bool false))), []⟩] 1 [6]) (.ret)) (.skip))) (.seq (.seq (.ops [⟨0, (some 15), none, .p (.mv (.tmp 0)), []⟩, ⟨1, (some 16), none, .p (.lenS false (.tmp 15)), []⟩, ⟨2, (some 17), none, .p (.mv (.const (.int .i64 0))), []⟩] 3 [1, 2, 15, 16, 17]) (.block 0 (.loop (.seq (.ops [⟨0, (some 18), none, .p (.bin .lss (.tmp 17) (.tmp 16)), []⟩] 1 [1, 2, 15, 16, 17, 18]) (.seq (.cond (.tmp 18) (.skip) (.exit 0)) (.seq (.block 1 (.seq (.ops [⟨0, (some 19), none, .p (.mv (.tmp 17)), []⟩, ⟨1, (some 20), none, .p (.idx 3 (.tmp 15) (.tmp 17)), []⟩, ⟨2, (some 21), none, .r (.load true 3 (.tmp 20)), []⟩, ⟨3, (some 8), none, .l (.alloc [.str [], .nils, .nils]), []⟩, ⟨4, (some 7), none, .p (.mv (.tmp 19)), []⟩, ⟨5, none, none, .e (.store (.tmp 8) (.tmp 21) 3), []⟩] 6 [1, 2, 7, 8, 15, 16, 17]) (.seq (.ops [⟨0, (some 22), none, .p (.mv (.tmp 1)), []⟩, ⟨1, (some 23), none, .p (.mv (.tmp 7)), []⟩, ⟨2, (some 24), none, .p (.idx 3 (.tmp 22) (.tmp 23)), []⟩, ⟨3, (some 25), none, .r (.load true 3 (.tmp 24)), []⟩, ⟨4, (some 9), none, .l (.alloc [.str [], .nils, .nils]), []⟩, ⟨5, none, none, .e (.store (.tmp 9) (.tmp 25) 3), []⟩] 6 [1, 2, 8, 9, 15, 16, 17]) (.seq (.ops [⟨0, (some 26), none, .p (.mv (.tmp 2)), []⟩, ⟨1, (some 27), none, .r (.load true 3 (.tmp 8)), []⟩, ⟨2, (some 28), none, .r (.load true 3 (.tmp 9)), []⟩, ⟨3, (some 29), none, .e (.callv true (.tmp 26) [.tmp 27, .tmp 28]), []⟩, ⟨4, (some 30), none, .p (.notb (.tmp 29)), []⟩] 5 [1, 2, 15, 16, 17, 30]) (.cond (.tmp 30) (.seq (.ops [⟨0, (some 6), none, .p (.mv (.const (.bool false))), []⟩] 1 [6]) (.ret)) (.skip)))))) (.ops [⟨0, (some 31), none, .p (.bin .add (.tmp 17) (.const (.int .i64 1))), []⟩, ⟨1, (some 17), none, .p (.mv (.tmp 31)), []⟩] 2 [1, 2, 15, 16, 17]))))))) (.seq (.ops [⟨0, (some 6), none, .p (.mv (.const (.bool true))), []⟩] 1 [6]) (.ret)))) }
def N64 : Notes := { note := fun _ => none, keep := fun | 10 => [6] | 9 => [1, 2, 15, 16, 17] | 8 => [6] | 7 => [1, 2, 15, 16, 17, 30] | 6 => [1, 2, 8, 9, 15, 16, 17] | 5 => [1, 2, 7, 8, 15, 16, 17] | 4 => [1, 2, 15, 16, 17, 18] | 3 => [1, 2, 15, 16, 17] | 2 => [6] | 1 => [0, 1, 2, 14] | 0 => [0, 1, 2] | _ => [] }
theorem A64_ok : cFn Try.prog qf N64 Try.f64 = some A64 := by kernel_rfl
inductive W64 where
  | mk (x0 x1 x2 x6 x7 x8 x9 x14 x15 x16 x17 x18 x30 : AV)
inductive V64 where
  | mk (x0 x1 x2 : AV)
def mo64 : W64 → Fr := fun ⟨x0, x1, x2, x6, x7, x8, x9, x14, x15, x16, x17, x18, x30⟩ => [x0, x1, x2, .top, .top, .top, x6, x7, x8, x9, .top, .top, .top, .top, x14, x15, x16, x17, x18, .top, .top, .top, .top, .top, .top, .top, .top, .top, .top, .top, x30, .top]
def mi64 : V64 → Fr := fun ⟨x0, x1, x2⟩ => [x0, x1, x2, .tup [], .tup [], .tup [], .tup [], .tup [], .tup [], .tup [], .tup [], .tup [], .tup [], .tup [], .tup [], .tup [], .tup [], .tup [], .tup [], .tup [], .tup [], .tup [], .tup [], .tup [], .tup [], .tup [], .tup [], .tup [], .tup [], .tup [], .tup [], .tup []]
noncomputable def S64r0 {R : Type} (call : Nat → List AV → M AV) : V64 → Nat → AS → (W64 → AS → Option R) → Option R := @V64.rec (fun _ => Nat → AS → (W64 → AS → Option R) → Option R) fun x0 x1 x2 base s k =>
  k (.mk x0 x1 x2 .top .top .top .top .top .top .top .top .top .top) s
noncomputable def S64r1 {R : Type} (call : Nat → List AV → M AV) : W64 → Nat → AS → (W64 → AS → Option R) → Option R := @W64.rec (fun _ => Nat → AS → (W64 → AS → Option R) → Option R) fun x0 x1 x2 x6 x7 x8 x9 x14 x15 x16 x17 x18 x30 base s k =>
  bndP (lenAQ false x0) fun y0 =>
  bndP (lenAQ false x1) fun y1 =>
  bndP (binQ .neq y0 y1) fun y2 =>
  k (.mk x0 x1 x2 .top .top .top .top y2 .top .top .top .top .top) s
noncomputable def S64r2 {R : Type} (call : Nat → List AV → M AV) : W64 → Nat → AS → (W64 → AS → Option R) → Option R := @W64.rec (fun _ => Nat → AS → (W64 → AS → Option R) → Option R) fun x0 x1 x2 x6 x7 x8 x9 x14 x15 x16 x17 x18 x30 base s k =>
  k (.mk .top .top .top ((.bool false) : AV) .top .top .top .top .top .top .top .top .top) s
noncomputable def S64r3 {R : Type} (call : Nat → List AV → M AV) : W64 → Nat → AS → (W64 → AS → Option R) → Option R := @W64.rec (fun _ => Nat → AS → (W64 → AS → Option R) → Option R) fun x0 x1 x2 x6 x7 x8 x9 x14 x15 x16 x17 x18 x30 base s k =>
  bndP (lenAQ false x0) fun y0 =>
  k (.mk .top x1 x2 .top .top .top .top .top x0 y0 ((.int .i64 0) : AV) .top .top) s
noncomputable def S64r4 {R : Type} (call : Nat → List AV → M AV) : W64 → Nat → AS → (W64 → AS → Option R) → Option R := @W64.rec (fun _ => Nat → AS → (W64 → AS → Option R) → Option R) fun x0 x1 x2 x6 x7 x8 x9 x14 x15 x16 x17 x18 x30 base s k =>
  bndP (binQ .lss x17 x16) fun y0 =>
  k (.mk .top x1 x2 .top .top .top .top .top x15 x16 x17 y0 .top) s
noncomputable def S64r5 {R : Type} (call : Nat → List AV → M AV) : W64 → Nat → AS → (W64 → AS → Option R) → Option R := @W64.rec (fun _ => Nat → AS → (W64 → AS → Option R) → Option R) fun x0 x1 x2 x6 x7 x8 x9 x14 x15 x16 x17 x18 x30 base s k =>
  bndP (idxQ 3 x15 x17) fun y0 =>
  bndP (loadQ true 3 y0 s.h) fun y1 =>
  bndO (newQ (base + 3) (allocB [(.str []), .nils, .nils] (base + 3)) s) fun y2 s =>
  bndO (storeQ y2 y1 3 s) fun _ s =>
  k (.mk .top x1 x2 .top x17 y2 .top .top x15 x16 x17 .top .top) s
noncomputable def S64r6 {R : Type} (call : Nat → List AV → M AV) : W64 → Nat → AS → (W64 → AS → Option R) → Option R := @W64.rec (fun _ => Nat → AS → (W64 → AS → Option R) → Option R) fun x0 x1 x2 x6 x7 x8 x9 x14 x15 x16 x17 x18 x30 base s k =>
  bndP (idxQ 3 x1 x7) fun y0 =>
  bndP (loadQ true 3 y0 s.h) fun y1 =>
  bndO (newQ (base + 4) (allocB [(.str []), .nils, .nils] (base + 4)) s) fun y2 s =>
  bndO (storeQ y2 y1 3 s) fun _ s =>
  k (.mk .top x1 x2 .top .top x8 y2 .top x15 x16 x17 .top .top) s
noncomputable def S64r7 {R : Type} (call : Nat → List AV → M AV) : W64 → Nat → AS → (W64 → AS → Option R) → Option R := @W64.rec (fun _ => Nat → AS → (W64 → AS → Option R) → Option R) fun x0 x1 x2 x6 x7 x8 x9 x14 x15 x16 x17 x18 x30 base s k =>
  bndP (loadQ true 3 x8 s.h) fun y0 =>
  bndP (loadQ true 3 x9 s.h) fun y1 =>
  bndO (callvQ call true x2 [y0, y1] s) fun y2 s =>
  bndP (notA y2) fun y3 =>
  k (.mk .top x1 x2 .top .top .top .top .top x15 x16 x17 .top y3) s
noncomputable def S64r8 {R : Type} (call : Nat → List AV → M AV) : W64 → Nat → AS → (W64 → AS → Option R) → Option R := @W64.rec (fun _ => Nat → AS → (W64 → AS → Option R) → Option R) fun x0 x1 x2 x6 x7 x8 x9 x14 x15 x16 x17 x18 x30 base s k =>
  k (.mk .top .top .top ((.bool false) : AV) .top .top .top .top .top .top .top .top .top) s
noncomputable def S64r9 {R : Type} (call : Nat → List AV → M AV) : W64 → Nat → AS → (W64 → AS → Option R) → Option R := @W64.rec (fun _ => Nat → AS → (W64 → AS → Option R) → Option R) fun x0 x1 x2 x6 x7 x8 x9 x14 x15 x16 x17 x18 x30 base s k =>
  bndP (binQ .add x17 ((.int .i64 1) : AV)) fun y0 =>
  k (.mk .top x1 x2 .top .top .top .top .top x15 x16 y0 .top .top) s
noncomputable def S64b10 {R : Type} (call : Nat → List AV → M AV) (fuel : Nat) : SC W64 W64 R := sSeq (sReg 1 (S64r4 call)) (sSeq (sCond (@W64.rec (fun _ => AV) fun _ _ _ _ _ _ _ _ _ _ _ x18 _ => x18) (sSkip) (sExit 0)) (sSeq (sBlock 1 (sSeq (sReg 6 (S64r5 call)) (sSeq (sReg 6 (S64r6 call)) (sSeq (sReg 5 (S64r7 call)) (sCond (@W64.rec (fun _ => AV) fun _ _ _ _ _ _ _ _ _ _ _ _ x30 => x30) (sSeq (sReg 1 (S64r8 call)) (sRet)) (sSkip)))))) (sReg 2 (S64r9 call))))
noncomputable def S64r11 {R : Type} (call : Nat → List AV → M AV) : W64 → Nat → AS → (W64 → AS → Option R) → Option R := @W64.rec (fun _ => Nat → AS → (W64 → AS → Option R) → Option R) fun x0 x1 x2 x6 x7 x8 x9 x14 x15 x16 x17 x18 x30 base s k =>
  k (.mk .top .top .top ((.bool true) : AV) .top .top .top .top .top .top .top .top .top) s
noncomputable def S64c {R : Type} (call : Nat → List AV → M AV) (fuel : Nat) : SC V64 W64 R := sSeq (sReg 1 (S64r0 call)) (sSeq (sSeq (sReg 5 (S64r1 call)) (sCond (@W64.rec (fun _ => AV) fun _ _ _ _ _ _ _ x14 _ _ _ _ _ => x14) (sSeq (sReg 1 (S64r2 call)) (sRet)) (sSkip))) (sSeq (sSeq (sReg 3 (S64r3 call)) (sBlock 0 (sLoop fuel (S64b10 call fuel)))) (sSeq (sReg 1 (S64r11 call)) (sRet))))
noncomputable def S64e : Ex → W64 → AS → Option (AV × AS) := fun e w s => (@W64.rec (fun _ => Option (AV × AS)) fun _ _ _ x6 _ _ _ _ _ _ _ _ _ => @Ex.rec (fun _ => Option (AV × AS)) (some (x6, s)) (fun _ => none) (some (x6, s)) e) w
noncomputable def S64 (call : Nat → List AV → M AV) (fuel : Nat) (args : List AV) (s : AS) : Option (AV × AS) := match args with
  | [x0, x1, x2] => S64c call fuel (.mk x0 x1 x2) s S64e
  | _ => none
theorem S64_sim (call : Nat → List AV → M AV) (fuel : Nat) : Sim (R := AV × AS) call fuel mi64 mo64 A64.code (S64c call fuel) := by
  refine sim_seq (sim_reg (fun ⟨x0, x1, x2⟩ _ _ _ => by kernel_rfl)) (sim_seq (sim_seq (sim_reg (fun ⟨x0, x1, x2, x6, x7, x8, x9, x14, x15, x16, x17, x18, x30⟩ _ _ _ => by kernel_rfl)) (sim_cond (fun ⟨x0, x1, x2, x6, x7, x8, x9, x14, x15, x16, x17, x18, x30⟩ => by kernel_rfl) (sim_seq (sim_reg (fun ⟨x0, x1, x2, x6, x7, x8, x9, x14, x15, x16, x17, x18, x30⟩ _ _ _ => by kernel_rfl)) (sim_ret)) (sim_skip))) (sim_seq (sim_seq (sim_reg (fun ⟨x0, x1, x2, x6, x7, x8, x9, x14, x15, x16, x17, x18, x30⟩ _ _ _ => by kernel_rfl)) (sim_block (sim_loop (sim_seq (sim_reg (fun ⟨x0, x1, x2, x6, x7, x8, x9, x14, x15, x16, x17, x18, x30⟩ _ _ _ => by kernel_rfl)) (sim_seq (sim_cond (fun ⟨x0, x1, x2, x6, x7, x8, x9, x14, x15, x16, x17, x18, x30⟩ => by kernel_rfl) (sim_skip) (sim_exit)) (sim_seq (sim_block (sim_seq (sim_reg (fun ⟨x0, x1, x2, x6, x7, x8, x9, x14, x15, x16, x17, x18, x30⟩ _ _ _ => by kernel_rfl)) (sim_seq (sim_reg (fun ⟨x0, x1, x2, x6, x7, x8, x9, x14, x15, x16, x17, x18, x30⟩ _ _ _ => by kernel_rfl)) (sim_seq (sim_reg (fun ⟨x0, x1, x2, x6, x7, x8, x9, x14, x15, x16, x17, x18, x30⟩ _ _ _ => by kernel_rfl)) (sim_cond (fun ⟨x0, x1, x2, x6, x7, x8, x9, x14, x15, x16, x17, x18, x30⟩ => by kernel_rfl) (sim_seq (sim_reg (fun ⟨x0, x1, x2, x6, x7, x8, x9, x14, x15, x16, x17, x18, x30⟩ _ _ _ => by kernel_rfl)) (sim_ret)) (sim_skip)))))) (sim_reg (fun ⟨x0, x1, x2, x6, x7, x8, x9, x14, x15, x16, x17, x18, x30⟩ _ _ _ => by kernel_rfl)))))))) (sim_seq (sim_reg (fun ⟨x0, x1, x2, x6, x7, x8, x9, x14, x15, x16, x17, x18, x30⟩ _ _ _ => by kernel_rfl)) (sim_ret))))
theorem S64_ok (call : Nat → List AV → M AV) (fuel : Nat) (args : List AV) (s : AS) : afn call fuel A64 args s = S64 call fuel args s := by
  rcases args with _ | ⟨x0, _ | ⟨x1, _ | ⟨x2, _ | ⟨x3, r⟩⟩⟩⟩
  · kernel_rfl
  · kernel_rfl
  · kernel_rfl
  · exact (afn_sim (S64_sim call fuel) (v := (.mk x0 x1 x2)) (e2 := S64e) (by kernel_rfl) (by kernel_rfl) (fun e w s => by cases w; cases e <;> kernel_rfl)).trans (by kernel_rfl)
  · kernel_rfl
def A65 : AFn := { nargs := 2, ntmps := 24, res := [.tmp 4], code := .seq (.ops [⟨0, (some 2), none, .l (.box (.tmp 0)), []⟩, ⟨1, (some 3), none, .l (.box (.tmp 1)), []⟩, ⟨2, (some 4), none, .p (.mv (.const (.bool false))), []⟩] 3 [2, 3]) (.seq (.ops [⟨0, (some 5), none, .p (.fld 0 (.tmp 2)), []⟩, ⟨1, (some 6), none, .r (.load false 1 (.tmp 5)), []⟩, ⟨2, (some 7), none, .p (.fld 0 (.tmp 3)), []⟩, ⟨3, (some 8), none, .r (.load false 1 (.tmp 7)), []⟩, ⟨4, (some 9), none, .p (.bin .eql (.tmp 6) (.tmp 8)), []⟩, ⟨5, (some 10), none, .p (.mv (.tmp 9)), []⟩, ⟨6, (some 11), (some (10, true)), .p (.fld 1 (.tmp 2)), []⟩, ⟨7, (some 12), (some (10, true)), .r (.load false 1 (.tmp 11)), []⟩, ⟨8, (some 13), (some (10, true)), .p (.fld 1 (.tmp 3)), []⟩, ⟨9, (some 14), (some (10, true)), .r (.load false 1 (.tmp 13)), []⟩, ⟨10, (some 15), (some (10, true)), .e (.call true 93 [.tmp 12, .tmp 14]), []⟩, ⟨11, (some 16), none, .p (.pick (.tmp 10) (.tmp 15) (.const (.bool false))), []⟩, ⟨12, (some 17), none, .p (.mv (.tmp 16)), []⟩, ⟨13, (some 18), (some (17, true)), .p (.fld 2 (.tmp 2)), []⟩, ⟨14, (some 19), (some (17, true)), .r (.load false 1 (.tmp 18)), []⟩, ⟨15, (some 20), (some (17, true)), .p (.fld 2 (.tmp 3)), []⟩, ⟨16, (some 21), (some (17, true)), .r (.load false 1 (.tmp 20)), []⟩, ⟨17, (some 22), (some (17, true)), .e (.call true 94 [.tmp 19, .tmp 21]), []⟩, ⟨18, (some 23), none, .p (.pick (.tmp 17) (.tmp 22) (.const (.bool false))), []⟩, ⟨19, (some 4), none, .p (.mv (.tmp 23)), []⟩] 20 [4]) (.ret)) }
def N65 : Notes := { note := fun _ => none, keep := fun | 1 => [4] | 0 => [2, 3] | _ => [] }
theorem A65_ok : cFn Try.prog qf N65 Try.f65 = some A65 := by kernel_rfl
inductive W65 where
  | mk (x2 x3 x4 : AV)
inductive V65 where
  | mk (x0 x1 : AV)
def mo65 : W65 → Fr := fun ⟨x2, x3, x4⟩ => [.top, .top, x2, x3, x4, .top, .top, .top, .top, .top, .top, .top, .top, .top, .top, .top, .top, .top, .top, .top, .top, .top, .top, .top]
def mi65 : V65 → Fr := fun ⟨x0, x1⟩ => [x0, x1, .tup [], .tup [], .tup [], .tup [], .tup [], .tup [], .tup [], .tup [], .tup [], .tup [], .tup [], .tup [], .tup [], .tup [], .tup [], .tup [], .tup [], .tup [], .tup [], .tup [], .tup [], .tup []]
noncomputable def S65r0 {R : Type} (call : Nat → List AV → M AV) : V65 → Nat → AS → (W65 → AS → Option R) → Option R := @V65.rec (fun _ => Nat → AS → (W65 → AS → Option R) → Option R) fun x0 x1 base s k =>
  bndO (newQ (base + 0) (boxB x0 (base + 0)) s) fun y0 s =>
  bndO (newQ (base + 1) (boxB x1 (base + 1)) s) fun y1 s =>
  k (.mk y0 y1 .top) s
noncomputable def S65r1 {R : Type} (call : Nat → List AV → M AV) : W65 → Nat → AS → (W65 → AS → Option R) → Option R := @W65.rec (fun _ => Nat → AS → (W65 → AS → Option R) → Option R) fun x2 x3 x4 base s k =>
  bndP (fldA 0 x2) fun y0 =>
  bndP (loadQ false 1 y0 s.h) fun y1 =>
  bndP (fldA 0 x3) fun y2 =>
  bndP (loadQ false 1 y2 s.h) fun y3 =>
  bndP (binQ .eql y1 y3) fun y4 =>
  bndO (gd (wantG y4 true) (fun s => (pureO (fldA 1 x2) s)) s) fun y5 s =>
  bndO (gd (wantG y4 true) (fun s => (pureO (loadQ false 1 y5 s.h) s)) s) fun y6 s =>
  bndO (gd (wantG y4 true) (fun s => (pureO (fldA 1 x3) s)) s) fun y7 s =>
  bndO (gd (wantG y4 true) (fun s => (pureO (loadQ false 1 y7 s.h) s)) s) fun y8 s =>
  bndO (gd (wantG y4 true) (fun s => (quietQ call 93 [y6, y8] s)) s) fun y9 s =>
  bndP (pickA y4 y9 ((.bool false) : AV)) fun y10 =>
  bndO (gd (wantG y10 true) (fun s => (pureO (fldA 2 x2) s)) s) fun y11 s =>
  bndO (gd (wantG y10 true) (fun s => (pureO (loadQ false 1 y11 s.h) s)) s) fun y12 s =>
  bndO (gd (wantG y10 true) (fun s => (pureO (fldA 2 x3) s)) s) fun y13 s =>
  bndO (gd (wantG y10 true) (fun s => (pureO (loadQ false 1 y13 s.h) s)) s) fun y14 s =>
  bndO (gd (wantG y10 true) (fun s => (quietQ call 94 [y12, y14] s)) s) fun y15 s =>
  bndP (pickA y10 y15 ((.bool false) : AV)) fun y16 =>
  k (.mk .top .top y16) s
noncomputable def S65c {R : Type} (call : Nat → List AV → M AV) (fuel : Nat) : SC V65 W65 R := sSeq (sReg 3 (S65r0 call)) (sSeq (sReg 20 (S65r1 call)) (sRet))
noncomputable def S65e : Ex → W65 → AS → Option (AV × AS) := fun e w s => (@W65.rec (fun _ => Option (AV × AS)) fun _ _ x4 => @Ex.rec (fun _ => Option (AV × AS)) (some (x4, s)) (fun _ => none) (some (x4, s)) e) w
noncomputable def S65 (call : Nat → List AV → M AV) (fuel : Nat) (args : List AV) (s : AS) : Option (AV × AS) := match args with
  | [x0, x1] => S65c call fuel (.mk x0 x1) s S65e
  | _ => none
theorem S65_sim (call : Nat → List AV → M AV) (fuel : Nat) : Sim (R := AV × AS) call fuel mi65 mo65 A65.code (S65c call fuel) := by
  refine sim_seq (sim_reg (fun ⟨x0, x1⟩ _ _ _ => by kernel_rfl)) (sim_seq (sim_reg (fun ⟨x2, x3, x4⟩ _ _ _ => by kernel_rfl)) (sim_ret))
theorem S65_ok (call : Nat → List AV → M AV) (fuel : Nat) (args : List AV) (s : AS) : afn call fuel A65 args s = S65 call fuel args s := by
  rcases args with _ | ⟨x0, _ | ⟨x1, _ | ⟨x2, r⟩⟩⟩
  · kernel_rfl
  · kernel_rfl
  · exact (afn_sim (S65_sim call fuel) (v := (.mk x0 x1)) (e2 := S65e) (by kernel_rfl) (by kernel_rfl) (fun e w s => by cases w; cases e <;> kernel_rfl)).trans (by kernel_rfl)
  · kernel_rfl
def A81 : AFn := { nargs := 1, ntmps := 84, res := [.tmp 2, .tmp 3], code := .seq (.ops [⟨0, (some 2), none, .p (.mv (.const (.str []))), []⟩, ⟨1, (some 3), none, .p (.mv (.const (.bool false))), []⟩] 2 [0]) (.seq (.ops [⟨0, (some 4), none, .p (.mv (.const (.nils))), []⟩] 1 [0, 4]) (.seq (.seq (.ops [⟨0, (some 8), none, .p (.mv (.tmp 0)), []⟩, ⟨1, (some 9), none, .p (.mv (.tmp 0)), []⟩, ⟨2, (some 10), none, .p (.lenS false (.tmp 9)), []⟩, ⟨3, (some 11), none, .p (.mini (.tmp 10) (.const (.int .i64 201))), []⟩, ⟨4, (some 12), none, .p (.cut 3 (.tmp 8) none (some (.tmp 11)) none), []⟩, ⟨5, (some 13), none, .p (.lenS false (.tmp 12)), []⟩, ⟨6, (some 14), none, .p (.mv (.const (.int .i64 0))), []⟩] 7 [4, 12, 13, 14]) (.block 0 (.loop (.seq (.ops [⟨0, (some 15), none, .p (.bin .lss (.tmp 14) (.tmp 13)), []⟩] 1 [4, 12, 13, 14, 15]) (.seq (.cond (.tmp 15) (.skip) (.exit 0)) (.seq (.block 1 (.seq (.ops [⟨0, (some 16), none, .p (.idx 3 (.tmp 12) (.tmp 14)), []⟩, ⟨1, (some 17), none, .r (.load true 3 (.tmp 16)), []⟩, ⟨2, (some 6), none, .l (.alloc [.int .i64 0, .str [], .str []]), []⟩, ⟨3, none, none, .e (.store (.tmp 6) (.tmp 17) 3), []⟩] 4 [4, 6, 12, 13, 14]) (.seq (.ops [⟨0, (some 18), none, .p (.mv (.tmp 4)), []⟩, ⟨1, (some 19), none, .p (.lenS false (.tmp 18)), []⟩, ⟨2, (some 7), none, .p (.mv (.tmp 19)), []⟩] 3 [4, 6, 7, 12, 13, 14]) (.block 2 (.seq (.ops [⟨0, (some 40), none, .p (.fld 0 (.tmp 6)), []⟩, ⟨1, (some 41), none, .r (.load false 1 (.tmp 40)), []⟩, ⟨2, (some 42), none, .p (.bin .eql (.tmp 41) (.const (.int .i64 1))), []⟩, ⟨3, (some 39), none, .p (.mv (.tmp 42)), []⟩] 4 [4, 6, 7, 12, 13, 14, 39]) (.cond (.tmp 39) (.ops [⟨0, (some 43), none, .p (.mv (.tmp 4)), []⟩, ⟨1, (some 44), none, .p (.fld 1 (.tmp 6)), []⟩, ⟨2, (some 45), none, .r (.load false 1 (.tmp 44)), []⟩, ⟨3, (some 46), none, .p (.build [.str [], .int .i64 0] [(0, 1, .tmp 45), (1, 1, .const (.int .i64 3))]), []⟩, ⟨4, (some 47), none, .k { z := [.str [], .int .i64 0], len := 1, parts := [(0, .tmp 46)] }, []⟩, ⟨5, (some 48), none, .e (.append 2 24 (.tmp 43) (.tmp 47)), []⟩, ⟨6, (some 4), none, .p (.mv (.tmp 48)), []⟩] 7 [4, 12, 13, 14]) (.seq (.ops [⟨0, (some 50), none, .p (.fld 0 (.tmp 6)), []⟩, ⟨1, (some 51), none, .r (.load false 1 (.tmp 50)), []⟩, ⟨2, (some 52), none, .p (.bin .eql (.tmp 51) (.const (.int .i64 2))), []⟩, ⟨3, (some 49), none, .p (.mv (.tmp 52)), []⟩] 4 [4, 6, 7, 12, 13, 14, 49]) (.cond (.tmp 49) (.ops [⟨0, (some 53), none, .p (.mv (.tmp 4)), []⟩, ⟨1, (some 54), none, .p (.fld 1 (.tmp 6)), []⟩, ⟨2, (some 55), none, .r (.load false 1 (.tmp 54)), []⟩, ⟨3, (some 56), none, .p (.bin .add (.tmp 55) (.const (.str [45, 62]))), []⟩, ⟨4, (some 57), none, .p (.fld 2 (.tmp 6)), []⟩, ⟨5, (some 58), none, .r (.load false 1 (.tmp 57)), []⟩, ⟨6, (some 59), none, .p (.bin .add (.tmp 56) (.tmp 58)), []⟩, ⟨7, (some 60), none, .p (.build [.str [], .int .i64 0] [(0, 1, .tmp 59), (1, 1, .const (.int .i64 3))]), []⟩, ⟨8, (some 61), none, .k { z := [.str [], .int .i64 0], len := 1, parts := [(0, .tmp 60)] }, []⟩, ⟨9, (some 62), none, .e (.append 2 24 (.tmp 53) (.tmp 61)), []⟩, ⟨10, (some 4), none, .p (.mv (.tmp 62)), []⟩] 11 [4, 12, 13, 14]) (.seq (.ops [⟨0, (some 64), none, .p (.mv (.tmp 7)), []⟩, ⟨1, (some 65), none, .p (.bin .lss (.tmp 64) (.const (.int .i64 2))), []⟩, ⟨2, (some 66), none, .p (.mv (.tmp 65)), []⟩, ⟨3, (some 67), (some (66, false)), .p (.fld 0 (.tmp 6)), []⟩, ⟨4, (some 68), (some (66, false)), .r (.load false 1 (.tmp 67)), []⟩, ⟨5, (some 69), (some (66, false)), .p (.bin .lss (.tmp 68) (.const (.int .i64 3))), []⟩, ⟨6, (some 70), none, .p (.pick (.tmp 66) (.const (.bool true)) (.tmp 69)), []⟩, ⟨7, (some 71), none, .p (.mv (.tmp 70)), []⟩, ⟨8, (some 72), (some (71, false)), .p (.fld 0 (.tmp 6)), []⟩, ⟨9, (some 73), (some (71, false)), .r (.load false 1 (.tmp 72)), []⟩, ⟨10, (some 74), (some (71, false)), .p (.bin .gtr (.tmp 73) (.const (.int .i64 5))), []⟩, ⟨11, (some 75), none, .p (.pick (.tmp 71) (.const (.bool true)) (.tmp 74)), []⟩, ⟨12, (some 63), none, .p (.mv (.tmp 75)), []⟩] 13 [4, 6, 7, 12, 13, 14, 63]) (.cond (.tmp 63) (.seq (.ops [⟨0, (some 2), none, .p (.mv (.const (.str []))), []⟩, ⟨1, (some 3), none, .p (.mv (.const (.bool false))), []⟩] 2 [2, 3]) (.ret)) (.ops [⟨0, (some 20), none, .p (.mv (.tmp 4)), []⟩, ⟨1, (some 21), none, .p (.mv (.tmp 7)), []⟩, ⟨2, (some 22), none, .p (.bin .sub (.tmp 21) (.const (.int .i64 2))), []⟩, ⟨3, (some 23), none, .p (.cut 2 (.tmp 20) none (some (.tmp 22)) none), []⟩, ⟨4, (some 24), none, .p (.mv (.tmp 4)), []⟩, ⟨5, (some 25), none, .p (.mv (.tmp 7)), []⟩, ⟨6, (some 26), none, .p (.bin .sub (.tmp 25) (.const (.int .i64 2))), []⟩, ⟨7, (some 27), none, .p (.idx 2 (.tmp 24) (.tmp 26)), []⟩, ⟨9, (some 29), none, .p (.mv (.tmp 4)), []⟩, ⟨10, (some 30), none, .p (.mv (.tmp 7)), []⟩, ⟨11, (some 31), none, .p (.bin .sub (.tmp 30) (.const (.int .i64 1))), []⟩, ⟨12, (some 32), none, .p (.idx 2 (.tmp 29) (.tmp 31)), []⟩, ⟨14, (some 34), none, .p (.fld 0 (.tmp 6)), []⟩, ⟨8, (some 28), none, .r (.load true 2 (.tmp 27)), []⟩, ⟨13, (some 33), none, .r (.load true 2 (.tmp 32)), []⟩, ⟨15, (some 35), none, .r (.load false 1 (.tmp 34)), []⟩, ⟨16, (some 36), none, .e (.call true 105 [.tmp 28, .tmp 33, .tmp 35]), []⟩, ⟨17, (some 37), none, .k { z := [.str [], .int .i64 0], len := 1, parts := [(0, .tmp 36)] }, []⟩, ⟨18, (some 38), none, .e (.append 2 24 (.tmp 23) (.tmp 37)), []⟩, ⟨19, (some 4), none, .p (.mv (.tmp 38)), []⟩] 20 [4, 12, 13, 14]))))))))))) (.ops [⟨0, (some 76), none, .p (.bin .add (.tmp 14) (.const (.int .i64 1))), []⟩, ⟨1, (some 14), none, .p (.mv (.tmp 76)), []⟩] 2 [4, 12, 13, 14]))))))) (.seq (.seq (.ops [⟨0, (some 77), none, .p (.mv (.tmp 4)), []⟩, ⟨1, (some 78), none, .p (.lenS false (.tmp 77)), []⟩, ⟨2, (some 79), none, .p (.bin .neq (.tmp 78) (.const (.int .i64 1))), []⟩] 3 [4, 79]) (.cond (.tmp 79) (.seq (.ops [⟨0, (some 2), none, .p (.mv (.const (.str []))), []⟩, ⟨1, (some 3), none, .p (.mv (.const (.bool false))), []⟩] 2 [2, 3]) (.ret)) (.skip))) (.seq (.ops [⟨0, (some 80), none, .p (.mv (.tmp 4)), []⟩, ⟨1, (some 81), none, .p (.idx 2 (.tmp 80) (.const (.int .i64 0))), []⟩, ⟨2, (some 82), none, .p (.fld 0 (.tmp 81)), []⟩, ⟨3, (some 83), none, .r (.load false 1 (.tmp 82)), []⟩, ⟨4, (some 2), none, .p (.mv (.tmp 83)), []⟩, ⟨5, (some 3), none, .p (.mv (.const (.bool true))), []⟩] 6 [2, 3]) (.ret))))) }
def N81 : Notes := { note := fun | 6 => some ⟨[0, 1, 2, 3, 4, 5, 6, 7, 9, 10, 11, 12, 14, 8, 13, 15, 16, 17, 18, 19], [0, 0, 2, 7, 0, 0, 32, 112, 240, 0, 0, 1024, 3584, 7680, 0, 16384, 65520, 131056, 262143, 524287], [[], [], [], [], [], [], [], [], [], [], [], [], [], [], [], [], [], [], [], []]⟩ | _ => none, keep := fun | 16 => [2, 3] | 15 => [2, 3] | 14 => [4, 79] | 13 => [4, 12, 13, 14] | 8 => [4, 12, 13, 14] | 10 => [4, 12, 13, 14] | 12 => [2, 3] | 6 => [4, 12, 13, 14] | 11 => [4, 6, 7, 12, 13, 14, 63] | 9 => [4, 6, 7, 12, 13, 14, 49] | 7 => [4, 6, 7, 12, 13, 14, 39] | 5 => [4, 6, 7, 12, 13, 14] | 4 => [4, 6, 12, 13, 14] | 3 => [4, 12, 13, 14, 15] | 2 => [4, 12, 13, 14] | 1 => [0, 4] | 0 => [0] | _ => [] }
theorem A81_ok : cFn Try.prog qf N81 Try.f81 = some A81 := by kernel_rfl
inductive W81 where
  | mk (x0 x2 x3 x4 x6 x7 x12 x13 x14 x15 x39 x49 x63 x79 : AV)
abbrev V81 := AV
def mo81 : W81 → Fr := fun ⟨x0, x2, x3, x4, x6, x7, x12, x13, x14, x15, x39, x49, x63, x79⟩ => [x0, .top, x2, x3, x4, .top, x6, x7, .top, .top, .top, .top, x12, x13, x14, x15, .top, .top, .top, .top, .top, .top, .top, .top, .top, .top, .top, .top, .top, .top, .top, .top, .top, .top, .top, .top, .top, .top, .top, x39, .top, .top, .top, .top, .top, .top, .top, .top, .top, x49, .top, .top, .top, .top, .top, .top, .top, .top, .top, .top, .top, .top, .top, x63, .top, .top, .top, .top, .top, .top, .top, .top, .top, .top, .top, .top, .top, .top, .top, x79, .top, .top, .top, .top]
def mi81 : V81 → Fr := fun x0 => [x0, .tup [], .tup [], .tup [], .tup [], .tup [], .tup [], .tup [], .tup [], .tup [], .tup [], .tup [], .tup [], .tup [], .tup [], .tup [], .tup [], .tup [], .tup [], .tup [], .tup [], .tup [], .tup [], .tup [], .tup [], .tup [], .tup [], .tup [], .tup [], .tup [], .tup [], .tup [], .tup [], .tup [], .tup [], .tup [], .tup [], .tup [], .tup [], .tup [], .tup [], .tup [], .tup [], .tup [], .tup [], .tup [], .tup [], .tup [], .tup [], .tup [], .tup [], .tup [], .tup [], .tup [], .tup [], .tup [], .tup [], .tup [], .tup [], .tup [], .tup [], .tup [], .tup [], .tup [], .tup [], .tup [], .tup [], .tup [], .tup [], .tup [], .tup [], .tup [], .tup [], .tup [], .tup [], .tup [], .tup [], .tup [], .tup [], .tup [], .tup [], .tup [], .tup [], .tup []]
noncomputable def S81r0 {R : Type} (call : Nat → List AV → M AV) : V81 → Nat → AS → (W81 → AS → Option R) → Option R := fun x0 base s k =>
  k (.mk x0 .top .top .top .top .top .top .top .top .top .top .top .top .top) s
noncomputable def S81r1 {R : Type} (call : Nat → List AV → M AV) : W81 → Nat → AS → (W81 → AS → Option R) → Option R := @W81.rec (fun _ => Nat → AS → (W81 → AS → Option R) → Option R) fun x0 x2 x3 x4 x6 x7 x12 x13 x14 x15 x39 x49 x63 x79 base s k =>
  k (.mk x0 .top .top (.nils : AV) .top .top .top .top .top .top .top .top .top .top) s
noncomputable def S81r2 {R : Type} (call : Nat → List AV → M AV) : W81 → Nat → AS → (W81 → AS → Option R) → Option R := @W81.rec (fun _ => Nat → AS → (W81 → AS → Option R) → Option R) fun x0 x2 x3 x4 x6 x7 x12 x13 x14 x15 x39 x49 x63 x79 base s k =>
  bndP (lenAQ false x0) fun y0 =>
  bndP (miniA y0 ((.int .i64 201) : AV)) fun y1 =>
  bndP (strN (cutV 3 x0 none (some y1) none)) fun y2 =>
  bndP (lenAQ false y2) fun y3 =>
  k (.mk .top .top .top x4 .top .top y2 y3 ((.int .i64 0) : AV) .top .top .top .top .top) s
noncomputable def S81r3 {R : Type} (call : Nat → List AV → M AV) : W81 → Nat → AS → (W81 → AS → Option R) → Option R := @W81.rec (fun _ => Nat → AS → (W81 → AS → Option R) → Option R) fun x0 x2 x3 x4 x6 x7 x12 x13 x14 x15 x39 x49 x63 x79 base s k =>
  bndP (binQ .lss x14 x13) fun y0 =>
  k (.mk .top .top .top x4 .top .top x12 x13 x14 y0 .top .top .top .top) s
noncomputable def S81r4 {R : Type} (call : Nat → List AV → M AV) : W81 → Nat → AS → (W81 → AS → Option R) → Option R := @W81.rec (fun _ => Nat → AS → (W81 → AS → Option R) → Option R) fun x0 x2 x3 x4 x6 x7 x12 x13 x14 x15 x39 x49 x63 x79 base s k =>
  bndP (idxQ 3 x12 x14) fun y0 =>
  bndP (loadQ true 3 y0 s.h) fun y1 =>
  bndO (newQ (base + 2) (allocB [(.int .i64 0), (.str []), (.str [])] (base + 2)) s) fun y2 s =>
  bndO (storeQ y2 y1 3 s) fun _ s =>
  k (.mk .top .top .top x4 y2 .top x12 x13 x14 .top .top .top .top .top) s
noncomputable def S81r5 {R : Type} (call : Nat → List AV → M AV) : W81 → Nat → AS → (W81 → AS → Option R) → Option R := @W81.rec (fun _ => Nat → AS → (W81 → AS → Option R) → Option R) fun x0 x2 x3 x4 x6 x7 x12 x13 x14 x15 x39 x49 x63 x79 base s k =>
  bndP (lenAQ false x4) fun y0 =>
  k (.mk .top .top .top x4 x6 y0 x12 x13 x14 .top .top .top .top .top) s
noncomputable def S81r6 {R : Type} (call : Nat → List AV → M AV) : W81 → Nat → AS → (W81 → AS → Option R) → Option R := @W81.rec (fun _ => Nat → AS → (W81 → AS → Option R) → Option R) fun x0 x2 x3 x4 x6 x7 x12 x13 x14 x15 x39 x49 x63 x79 base s k =>
  bndP (fldA 0 x6) fun y0 =>
  bndP (loadQ false 1 y0 s.h) fun y1 =>
  bndP (binQ .eql y1 ((.int .i64 1) : AV)) fun y2 =>
  k (.mk .top .top .top x4 x6 x7 x12 x13 x14 .top y2 .top .top .top) s
noncomputable def S81r7 {R : Type} (call : Nat → List AV → M AV) : W81 → Nat → AS → (W81 → AS → Option R) → Option R := @W81.rec (fun _ => Nat → AS → (W81 → AS → Option R) → Option R) fun x0 x2 x3 x4 x6 x7 x12 x13 x14 x15 x39 x49 x63 x79 base s k =>
  bndP (fldA 1 x6) fun y0 =>
  bndP (loadQ false 1 y0 s.h) fun y1 =>
  bndP (buildA [(.str []), (.int .i64 0)] [(0, 1, y1), (1, 1, ((.int .i64 3) : AV))]) fun y2 =>
  bndP (rowsA [(.str []), (.int .i64 0)] 1 [(0, y2)]) fun y3 =>
  bndO (appQ (base + 5) 2 24 x4 y3 s) fun y4 s =>
  k (.mk .top .top .top y4 .top .top x12 x13 x14 .top .top .top .top .top) s
noncomputable def S81r8 {R : Type} (call : Nat → List AV → M AV) : W81 → Nat → AS → (W81 → AS → Option R) → Option R := @W81.rec (fun _ => Nat → AS → (W81 → AS → Option R) → Option R) fun x0 x2 x3 x4 x6 x7 x12 x13 x14 x15 x39 x49 x63 x79 base s k =>
  bndP (fldA 0 x6) fun y0 =>
  bndP (loadQ false 1 y0 s.h) fun y1 =>
  bndP (binQ .eql y1 ((.int .i64 2) : AV)) fun y2 =>
  k (.mk .top .top .top x4 x6 x7 x12 x13 x14 .top .top y2 .top .top) s
noncomputable def S81r9 {R : Type} (call : Nat → List AV → M AV) : W81 → Nat → AS → (W81 → AS → Option R) → Option R := @W81.rec (fun _ => Nat → AS → (W81 → AS → Option R) → Option R) fun x0 x2 x3 x4 x6 x7 x12 x13 x14 x15 x39 x49 x63 x79 base s k =>
  bndP (fldA 1 x6) fun y0 =>
  bndP (loadQ false 1 y0 s.h) fun y1 =>
  bndP (binQ .add y1 ((.str [45, 62]) : AV)) fun y2 =>
  bndP (fldA 2 x6) fun y3 =>
  bndP (loadQ false 1 y3 s.h) fun y4 =>
  bndP (binQ .add y2 y4) fun y5 =>
  bndP (buildA [(.str []), (.int .i64 0)] [(0, 1, y5), (1, 1, ((.int .i64 3) : AV))]) fun y6 =>
  bndP (rowsA [(.str []), (.int .i64 0)] 1 [(0, y6)]) fun y7 =>
  bndO (appQ (base + 9) 2 24 x4 y7 s) fun y8 s =>
  k (.mk .top .top .top y8 .top .top x12 x13 x14 .top .top .top .top .top) s
noncomputable def S81r10 {R : Type} (call : Nat → List AV → M AV) : W81 → Nat → AS → (W81 → AS → Option R) → Option R := @W81.rec (fun _ => Nat → AS → (W81 → AS → Option R) → Option R) fun x0 x2 x3 x4 x6 x7 x12 x13 x14 x15 x39 x49 x63 x79 base s k =>
  bndP (binQ .lss x7 ((.int .i64 2) : AV)) fun y0 =>
  bndO (gd (wantG y0 false) (fun s => (pureO (fldA 0 x6) s)) s) fun y1 s =>
  bndO (gd (wantG y0 false) (fun s => (pureO (loadQ false 1 y1 s.h) s)) s) fun y2 s =>
  bndO (gd (wantG y0 false) (fun s => (pureO (binQ .lss y2 ((.int .i64 3) : AV)) s)) s) fun y3 s =>
  bndP (pickA y0 ((.bool true) : AV) y3) fun y4 =>
  bndO (gd (wantG y4 false) (fun s => (pureO (fldA 0 x6) s)) s) fun y5 s =>
  bndO (gd (wantG y4 false) (fun s => (pureO (loadQ false 1 y5 s.h) s)) s) fun y6 s =>
  bndO (gd (wantG y4 false) (fun s => (pureO (binQ .gtr y6 ((.int .i64 5) : AV)) s)) s) fun y7 s =>
  bndP (pickA y4 ((.bool true) : AV) y7) fun y8 =>
  k (.mk .top .top .top x4 x6 x7 x12 x13 x14 .top .top .top y8 .top) s
noncomputable def S81r11 {R : Type} (call : Nat → List AV → M AV) : W81 → Nat → AS → (W81 → AS → Option R) → Option R := @W81.rec (fun _ => Nat → AS → (W81 → AS → Option R) → Option R) fun x0 x2 x3 x4 x6 x7 x12 x13 x14 x15 x39 x49 x63 x79 base s k =>
  k (.mk .top ((.str []) : AV) ((.bool false) : AV) .top .top .top .top .top .top .top .top .top .top .top) s
noncomputable def S81r12 {R : Type} (call : Nat → List AV → M AV) : W81 → Nat → AS → (W81 → AS → Option R) → Option R := @W81.rec (fun _ => Nat → AS → (W81 → AS → Option R) → Option R) fun x0 x2 x3 x4 x6 x7 x12 x13 x14 x15 x39 x49 x63 x79 base s k =>
  bndP (binQ .sub x7 ((.int .i64 2) : AV)) fun y0 =>
  bndP (strN (cutV 2 x4 none (some y0) none)) fun y1 =>
  bndP (binQ .sub x7 ((.int .i64 2) : AV)) fun y2 =>
  bndP (idxQ 2 x4 y2) fun y3 =>
  bndP (binQ .sub x7 ((.int .i64 1) : AV)) fun y4 =>
  bndP (idxQ 2 x4 y4) fun y5 =>
  bndP (fldA 0 x6) fun y6 =>
  bndP (loadQ true 2 y3 s.h) fun y7 =>
  bndP (loadQ true 2 y5 s.h) fun y8 =>
  bndP (loadQ false 1 y6 s.h) fun y9 =>
  bndO (quietQ call 105 [y7, y8, y9] s) fun y10 s =>
  bndP (rowsA [(.str []), (.int .i64 0)] 1 [(0, y10)]) fun y11 =>
  bndO (appQ (base + 18) 2 24 y1 y11 s) fun y12 s =>
  k (.mk .top .top .top y12 .top .top x12 x13 x14 .top .top .top .top .top) s
noncomputable def S81r13 {R : Type} (call : Nat → List AV → M AV) : W81 → Nat → AS → (W81 → AS → Option R) → Option R := @W81.rec (fun _ => Nat → AS → (W81 → AS → Option R) → Option R) fun x0 x2 x3 x4 x6 x7 x12 x13 x14 x15 x39 x49 x63 x79 base s k =>
  bndP (binQ .add x14 ((.int .i64 1) : AV)) fun y0 =>
  k (.mk .top .top .top x4 .top .top x12 x13 y0 .top .top .top .top .top) s
noncomputable def S81b14 {R : Type} (call : Nat → List AV → M AV) (fuel : Nat) : SC W81 W81 R := sSeq (sReg 1 (S81r3 call)) (sSeq (sCond (@W81.rec (fun _ => AV) fun _ _ _ _ _ _ _ _ _ x15 _ _ _ _ => x15) (sSkip) (sExit 0)) (sSeq (sBlock 1 (sSeq (sReg 4 (S81r4 call)) (sSeq (sReg 3 (S81r5 call)) (sBlock 2 (sSeq (sReg 4 (S81r6 call)) (sCond (@W81.rec (fun _ => AV) fun _ _ _ _ _ _ _ _ _ _ x39 _ _ _ => x39) (sReg 7 (S81r7 call)) (sSeq (sReg 4 (S81r8 call)) (sCond (@W81.rec (fun _ => AV) fun _ _ _ _ _ _ _ _ _ _ _ x49 _ _ => x49) (sReg 11 (S81r9 call)) (sSeq (sReg 13 (S81r10 call)) (sCond (@W81.rec (fun _ => AV) fun _ _ _ _ _ _ _ _ _ _ _ _ x63 _ => x63) (sSeq (sReg 2 (S81r11 call)) (sRet)) (sReg 20 (S81r12 call)))))))))))) (sReg 2 (S81r13 call))))
noncomputable def S81r15 {R : Type} (call : Nat → List AV → M AV) : W81 → Nat → AS → (W81 → AS → Option R) → Option R := @W81.rec (fun _ => Nat → AS → (W81 → AS → Option R) → Option R) fun x0 x2 x3 x4 x6 x7 x12 x13 x14 x15 x39 x49 x63 x79 base s k =>
  bndP (lenAQ false x4) fun y0 =>
  bndP (binQ .neq y0 ((.int .i64 1) : AV)) fun y1 =>
  k (.mk .top .top .top x4 .top .top .top .top .top .top .top .top .top y1) s
noncomputable def S81r16 {R : Type} (call : Nat → List AV → M AV) : W81 → Nat → AS → (W81 → AS → Option R) → Option R := @W81.rec (fun _ => Nat → AS → (W81 → AS → Option R) → Option R) fun x0 x2 x3 x4 x6 x7 x12 x13 x14 x15 x39 x49 x63 x79 base s k =>
  k (.mk .top ((.str []) : AV) ((.bool false) : AV) .top .top .top .top .top .top .top .top .top .top .top) s
noncomputable def S81r17 {R : Type} (call : Nat → List AV → M AV) : W81 → Nat → AS → (W81 → AS → Option R) → Option R := @W81.rec (fun _ => Nat → AS → (W81 → AS → Option R) → Option R) fun x0 x2 x3 x4 x6 x7 x12 x13 x14 x15 x39 x49 x63 x79 base s k =>
  bndP (idxQ 2 x4 ((.int .i64 0) : AV)) fun y0 =>
  bndP (fldA 0 y0) fun y1 =>
  bndP (loadQ false 1 y1 s.h) fun y2 =>
  k (.mk .top y2 ((.bool true) : AV) .top .top .top .top .top .top .top .top .top .top .top) s
noncomputable def S81c {R : Type} (call : Nat → List AV → M AV) (fuel : Nat) : SC V81 W81 R := sSeq (sReg 2 (S81r0 call)) (sSeq (sReg 1 (S81r1 call)) (sSeq (sSeq (sReg 7 (S81r2 call)) (sBlock 0 (sLoop fuel (S81b14 call fuel)))) (sSeq (sSeq (sReg 3 (S81r15 call)) (sCond (@W81.rec (fun _ => AV) fun _ _ _ _ _ _ _ _ _ _ _ _ _ x79 => x79) (sSeq (sReg 2 (S81r16 call)) (sRet)) (sSkip))) (sSeq (sReg 6 (S81r17 call)) (sRet)))))
noncomputable def S81e : Ex → W81 → AS → Option (AV × AS) := fun e w s => (@W81.rec (fun _ => Option (AV × AS)) fun _ x2 x3 _ _ _ _ _ _ _ _ _ _ _ => @Ex.rec (fun _ => Option (AV × AS)) (some (.tup [x2, x3], s)) (fun _ => none) (some (.tup [x2, x3], s)) e) w
noncomputable def S81 (call : Nat → List AV → M AV) (fuel : Nat) (args : List AV) (s : AS) : Option (AV × AS) := match args with
  | [x0] => S81c call fuel x0 s S81e
  | _ => none
theorem S81_sim (call : Nat → List AV → M AV) (fuel : Nat) : Sim (R := AV × AS) call fuel mi81 mo81 A81.code (S81c call fuel) := by
  refine sim_seq (sim_reg (fun x0 _ _ _ => by kernel_rfl)) (sim_seq (sim_reg (fun ⟨x0, x2, x3, x4, x6, x7, x12, x13, x14, x15, x39, x49, x63, x79⟩ _ _ _ => by kernel_rfl)) (sim_seq (sim_seq (sim_reg (fun ⟨x0, x2, x3, x4, x6, x7, x12, x13, x14, x15, x39, x49, x63, x79⟩ _ _ _ => by kernel_rfl)) (sim_block (sim_loop (sim_seq (sim_reg (fun ⟨x0, x2, x3, x4, x6, x7, x12, x13, x14, x15, x39, x49, x63, x79⟩ _ _ _ => by kernel_rfl)) (sim_seq (sim_cond (fun ⟨x0, x2, x3, x4, x6, x7, x12, x13, x14, x15, x39, x49, x63, x79⟩ => by kernel_rfl) (sim_skip) (sim_exit)) (sim_seq (sim_block (sim_seq (sim_reg (fun ⟨x0, x2, x3, x4, x6, x7, x12, x13, x14, x15, x39, x49, x63, x79⟩ _ _ _ => by kernel_rfl)) (sim_seq (sim_reg (fun ⟨x0, x2, x3, x4, x6, x7, x12, x13, x14, x15, x39, x49, x63, x79⟩ _ _ _ => by kernel_rfl)) (sim_block (sim_seq (sim_reg (fun ⟨x0, x2, x3, x4, x6, x7, x12, x13, x14, x15, x39, x49, x63, x79⟩ _ _ _ => by kernel_rfl)) (sim_cond (fun ⟨x0, x2, x3, x4, x6, x7, x12, x13, x14, x15, x39, x49, x63, x79⟩ => by kernel_rfl) (sim_reg (fun ⟨x0, x2, x3, x4, x6, x7, x12, x13, x14, x15, x39, x49, x63, x79⟩ _ _ _ => by kernel_rfl)) (sim_seq (sim_reg (fun ⟨x0, x2, x3, x4, x6, x7, x12, x13, x14, x15, x39, x49, x63, x79⟩ _ _ _ => by kernel_rfl)) (sim_cond (fun ⟨x0, x2, x3, x4, x6, x7, x12, x13, x14, x15, x39, x49, x63, x79⟩ => by kernel_rfl) (sim_reg (fun ⟨x0, x2, x3, x4, x6, x7, x12, x13, x14, x15, x39, x49, x63, x79⟩ _ _ _ => by kernel_rfl)) (sim_seq (sim_reg (fun ⟨x0, x2, x3, x4, x6, x7, x12, x13, x14, x15, x39, x49, x63, x79⟩ _ _ _ => by kernel_rfl)) (sim_cond (fun ⟨x0, x2, x3, x4, x6, x7, x12, x13, x14, x15, x39, x49, x63, x79⟩ => by kernel_rfl) (sim_seq (sim_reg (fun ⟨x0, x2, x3, x4, x6, x7, x12, x13, x14, x15, x39, x49, x63, x79⟩ _ _ _ => by kernel_rfl)) (sim_ret)) (sim_reg (fun ⟨x0, x2, x3, x4, x6, x7, x12, x13, x14, x15, x39, x49, x63, x79⟩ _ _ _ => by kernel_rfl)))))))))))) (sim_reg (fun ⟨x0, x2, x3, x4, x6, x7, x12, x13, x14, x15, x39, x49, x63, x79⟩ _ _ _ => by kernel_rfl)))))))) (sim_seq (sim_seq (sim_reg (fun ⟨x0, x2, x3, x4, x6, x7, x12, x13, x14, x15, x39, x49, x63, x79⟩ _ _ _ => by kernel_rfl)) (sim_cond (fun ⟨x0, x2, x3, x4, x6, x7, x12, x13, x14, x15, x39, x49, x63, x79⟩ => by kernel_rfl) (sim_seq (sim_reg (fun ⟨x0, x2, x3, x4, x6, x7, x12, x13, x14, x15, x39, x49, x63, x79⟩ _ _ _ => by kernel_rfl)) (sim_ret)) (sim_skip))) (sim_seq (sim_reg (fun ⟨x0, x2, x3, x4, x6, x7, x12, x13, x14, x15, x39, x49, x63, x79⟩ _ _ _ => by kernel_rfl)) (sim_ret)))))
theorem S81_ok (call : Nat → List AV → M AV) (fuel : Nat) (args : List AV) (s : AS) : afn call fuel A81 args s = S81 call fuel args s := by
  rcases args with _ | ⟨x0, _ | ⟨x1, r⟩⟩
  · kernel_rfl
  · exact (afn_sim (S81_sim call fuel) (v := x0) (e2 := S81e) (by kernel_rfl) (by kernel_rfl) (fun e w s => by cases w; cases e <;> kernel_rfl)).trans (by kernel_rfl)
  · kernel_rfl
end Go.Proofs.Ytgcciohenncplaa.Ai
