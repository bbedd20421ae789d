/- Functions told without frames, and that they answer as the code does. -/
import Derived.Test.YtgcciohenncplaaEf0
set_option linter.all false
namespace Go.Proofs.Ytgcciohenncplaa.Ai
def A70 : AFn := { nargs := 1, ntmps := 115, res := [.tmp 2, .tmp 3, .tmp 4], code := .seq (.ops [⟨0, (some 2), none, .p (.mv (.const (.nils))), []⟩, ⟨1, (some 3), none, .p (.mv (.const (.int .i64 0))), []⟩, ⟨2, (some 4), none, .p (.mv (.const (.int .i64 0))), []⟩] 3 [0]) (.seq (.seq (.ops [⟨0, (some 10), none, .p (.mv (.tmp 0)), []⟩, ⟨1, (some 11), none, .p (.lenS true (.tmp 10)), []⟩, ⟨2, (some 12), none, .p (.bin .gtr (.tmp 11) (.const (.int .i64 100000))), []⟩] 3 [0, 12]) (.cond (.tmp 12) (.seq (.ops [⟨0, (some 2), none, .p (.mv (.const (.nils))), []⟩, ⟨1, (some 3), none, .p (.mv (.const (.int .i64 0))), []⟩, ⟨2, (some 4), none, .p (.mv (.const (.int .i64 8))), []⟩] 3 [2, 3, 4]) (.ret)) (.skip))) (.seq (.ops [⟨0, (some 5), none, .p (.mv (.const (.nils))), []⟩] 1 [0, 5]) (.seq (.seq (.ops [⟨0, (some 6), none, .p (.mv (.const (.int .i64 0))), []⟩] 1 [0, 5, 6]) (.block 0 (.loop (.seq (.seq (.ops [⟨0, (some 13), none, .p (.mv (.tmp 6)), []⟩, ⟨1, (some 14), none, .p (.mv (.tmp 0)), []⟩, ⟨2, (some 15), none, .p (.lenS true (.tmp 14)), []⟩, ⟨3, (some 16), none, .p (.bin .lss (.tmp 13) (.tmp 15)), []⟩] 4 [0, 5, 6, 16]) (.cond (.tmp 16) (.skip) (.exit 0))) (.block 1 (.seq (.ops [⟨0, (some 17), none, .p (.mv (.tmp 0)), []⟩, ⟨1, (some 18), none, .p (.mv (.tmp 6)), []⟩, ⟨2, (some 19), none, .p (.idxs (.tmp 17) (.tmp 18)), []⟩, ⟨3, (some 7), none, .p (.mv (.tmp 19)), []⟩] 4 [0, 5, 6, 7]) (.seq (.ops [⟨0, (some 20), none, .p (.mv (.tmp 6)), []⟩, ⟨1, (some 21), none, .p (.bin .add (.tmp 20) (.const (.int .i64 1))), []⟩, ⟨2, (some 8), none, .p (.mv (.tmp 21)), []⟩] 3 [0, 5, 6, 7, 8]) (.seq (.ops [⟨0, (some 9), none, .p (.mv (.const (.int .i64 2))), []⟩] 1 [0, 5, 6, 7, 8, 9]) (.seq (.block 2 (.seq (.ops [⟨0, (some 23), none, .p (.mv (.tmp 7)), []⟩, ⟨1, (some 24), none, .p (.bin .eql (.tmp 23) (.const (.int .u8 32))), []⟩, ⟨2, (some 25), none, .p (.mv (.tmp 24)), []⟩, ⟨3, (some 26), (some (25, false)), .p (.mv (.tmp 7)), []⟩, ⟨4, (some 27), (some (25, false)), .p (.bin .eql (.tmp 26) (.const (.int .u8 9))), []⟩, ⟨5, (some 28), none, .p (.pick (.tmp 25) (.const (.bool true)) (.tmp 27)), []⟩, ⟨6, (some 29), none, .p (.mv (.tmp 28)), []⟩, ⟨7, (some 30), (some (29, false)), .p (.mv (.tmp 7)), []⟩, ⟨8, (some 31), (some (29, false)), .p (.bin .eql (.tmp 30) (.const (.int .u8 10))), []⟩, ⟨9, (some 32), none, .p (.pick (.tmp 29) (.const (.bool true)) (.tmp 31)), []⟩, ⟨10, (some 33), none, .p (.mv (.tmp 32)), []⟩, ⟨11, (some 34), (some (33, false)), .p (.mv (.tmp 7)), []⟩, ⟨12, (some 35), (some (33, false)), .p (.bin .eql (.tmp 34) (.const (.int .u8 13))), []⟩, ⟨13, (some 36), none, .p (.pick (.tmp 33) (.const (.bool true)) (.tmp 35)), []⟩, ⟨14, (some 22), none, .p (.mv (.tmp 36)), []⟩] 15 [0, 5, 6, 7, 8, 9, 22]) (.cond (.tmp 22) (.ops [⟨0, (some 9), none, .p (.mv (.const (.int .i64 0))), []⟩] 1 [0, 5, 6, 8, 9]) (.seq (.ops [⟨0, (some 38), none, .p (.mv (.tmp 7)), []⟩, ⟨1, (some 39), none, .p (.bin .eql (.tmp 38) (.const (.int .u8 47))), []⟩, ⟨2, (some 40), none, .p (.mv (.tmp 39)), []⟩, ⟨3, (some 41), (some (40, true)), .p (.mv (.tmp 8)), []⟩, ⟨4, (some 42), (some (40, true)), .p (.mv (.tmp 0)), []⟩, ⟨5, (some 43), (some (40, true)), .p (.lenS true (.tmp 42)), []⟩, ⟨6, (some 44), (some (40, true)), .p (.bin .lss (.tmp 41) (.tmp 43)), []⟩, ⟨7, (some 45), none, .p (.pick (.tmp 40) (.tmp 44) (.const (.bool false))), []⟩, ⟨8, (some 46), none, .p (.mv (.tmp 45)), []⟩, ⟨9, (some 47), (some (46, true)), .p (.mv (.tmp 0)), []⟩, ⟨10, (some 48), (some (46, true)), .p (.mv (.tmp 8)), []⟩, ⟨11, (some 49), (some (46, true)), .p (.idxs (.tmp 47) (.tmp 48)), []⟩, ⟨12, (some 50), (some (46, true)), .p (.bin .eql (.tmp 49) (.const (.int .u8 47))), []⟩, ⟨13, (some 51), none, .p (.pick (.tmp 46) (.tmp 50) (.const (.bool false))), []⟩, ⟨14, (some 37), none, .p (.mv (.tmp 51)), []⟩] 15 [0, 5, 6, 7, 8, 9, 37]) (.cond (.tmp 37) (.seq (.block 3 (.loop (.seq (.seq (.ops [⟨0, (some 52), none, .p (.mv (.tmp 8)), []⟩, ⟨1, (some 53), none, .p (.mv (.tmp 0)), []⟩, ⟨2, (some 54), none, .p (.lenS true (.tmp 53)), []⟩, ⟨3, (some 55), none, .p (.bin .lss (.tmp 52) (.tmp 54)), []⟩, ⟨4, (some 56), none, .p (.mv (.tmp 55)), []⟩, ⟨5, (some 57), (some (56, true)), .p (.mv (.tmp 0)), []⟩, ⟨6, (some 58), (some (56, true)), .p (.mv (.tmp 8)), []⟩, ⟨7, (some 59), (some (56, true)), .p (.idxs (.tmp 57) (.tmp 58)), []⟩, ⟨8, (some 60), (some (56, true)), .p (.bin .neq (.tmp 59) (.const (.int .u8 10))), []⟩, ⟨9, (some 61), none, .p (.pick (.tmp 56) (.tmp 60) (.const (.bool false))), []⟩] 10 [0, 5, 6, 8, 61]) (.cond (.tmp 61) (.skip) (.exit 3))) (.block 4 (.ops [⟨0, (some 62), none, .p (.mv (.tmp 8)), []⟩, ⟨1, (some 63), none, .p (.bin .add (.tmp 62) (.const (.int .i64 1))), []⟩, ⟨2, (some 8), none, .p (.mv (.tmp 63)), []⟩] 3 [0, 5, 6, 8]))))) (.ops [⟨0, (some 9), none, .p (.mv (.const (.int .i64 0))), []⟩] 1 [0, 5, 6, 8, 9])) (.seq (.ops [⟨0, (some 65), none, .p (.mv (.tmp 7)), []⟩, ⟨1, (some 66), none, .e (.call true 97 [.tmp 65]), []⟩, ⟨2, (some 64), none, .p (.mv (.tmp 66)), []⟩] 3 [0, 5, 6, 7, 8, 9, 64]) (.cond (.tmp 64) (.seq (.block 5 (.loop (.seq (.seq (.ops [⟨0, (some 67), none, .p (.mv (.tmp 8)), []⟩, ⟨1, (some 68), none, .p (.mv (.tmp 0)), []⟩, ⟨2, (some 69), none, .p (.lenS true (.tmp 68)), []⟩, ⟨3, (some 70), none, .p (.bin .lss (.tmp 67) (.tmp 69)), []⟩, ⟨4, (some 71), none, .p (.mv (.tmp 70)), []⟩, ⟨5, (some 72), (some (71, true)), .p (.mv (.tmp 0)), []⟩, ⟨6, (some 73), (some (71, true)), .p (.mv (.tmp 8)), []⟩, ⟨7, (some 74), (some (71, true)), .p (.idxs (.tmp 72) (.tmp 73)), []⟩, ⟨8, (some 75), (some (71, true)), .e (.call true 97 [.tmp 74]), []⟩, ⟨9, (some 76), none, .p (.pick (.tmp 71) (.tmp 75) (.const (.bool false))), []⟩] 10 [0, 5, 6, 8, 76]) (.cond (.tmp 76) (.skip) (.exit 5))) (.block 6 (.ops [⟨0, (some 77), none, .p (.mv (.tmp 8)), []⟩, ⟨1, (some 78), none, .p (.bin .add (.tmp 77) (.const (.int .i64 1))), []⟩, ⟨2, (some 8), none, .p (.mv (.tmp 78)), []⟩] 3 [0, 5, 6, 8]))))) (.ops [⟨0, (some 9), none, .p (.mv (.const (.int .i64 1))), []⟩] 1 [0, 5, 6, 8, 9])) (.seq (.ops [⟨0, (some 80), none, .p (.mv (.tmp 7)), []⟩, ⟨1, (some 81), none, .p (.bin .eql (.tmp 80) (.const (.int .u8 45))), []⟩, ⟨2, (some 82), none, .p (.mv (.tmp 81)), []⟩, ⟨3, (some 83), (some (82, true)), .p (.mv (.tmp 8)), []⟩, ⟨4, (some 84), (some (82, true)), .p (.mv (.tmp 0)), []⟩, ⟨5, (some 85), (some (82, true)), .p (.lenS true (.tmp 84)), []⟩, ⟨6, (some 86), (some (82, true)), .p (.bin .lss (.tmp 83) (.tmp 85)), []⟩, ⟨7, (some 87), none, .p (.pick (.tmp 82) (.tmp 86) (.const (.bool false))), []⟩, ⟨8, (some 88), none, .p (.mv (.tmp 87)), []⟩, ⟨9, (some 89), (some (88, true)), .p (.mv (.tmp 0)), []⟩, ⟨10, (some 90), (some (88, true)), .p (.mv (.tmp 8)), []⟩, ⟨11, (some 91), (some (88, true)), .p (.idxs (.tmp 89) (.tmp 90)), []⟩, ⟨12, (some 92), (some (88, true)), .p (.bin .eql (.tmp 91) (.const (.int .u8 62))), []⟩, ⟨13, (some 93), none, .p (.pick (.tmp 88) (.tmp 92) (.const (.bool false))), []⟩, ⟨14, (some 79), none, .p (.mv (.tmp 93)), []⟩] 15 [0, 5, 6, 7, 8, 9, 79]) (.cond (.tmp 79) (.ops [⟨0, (some 94), none, .p (.mv (.tmp 8)), []⟩, ⟨1, (some 95), none, .p (.bin .add (.tmp 94) (.const (.int .i64 1))), []⟩, ⟨2, (some 8), none, .p (.mv (.tmp 95)), []⟩] 3 [0, 5, 6, 8, 9]) (.seq (.ops [⟨0, (some 97), none, .p (.mv (.tmp 7)), []⟩, ⟨1, (some 98), none, .e (.call true 98 [.const (.str [123, 125, 58, 59, 124, 35, 61, 43, 45, 38, 40, 41]), .tmp 97, .const (.int .i64 0)]), []⟩, ⟨2, (some 99), none, .p (.bin .lss (.tmp 98) (.const (.int .i64 0))), []⟩, ⟨3, (some 96), none, .p (.mv (.tmp 99)), []⟩] 4 [0, 5, 6, 8, 9, 96]) (.cond (.tmp 96) (.seq (.ops [⟨0, (some 100), none, .p (.mv (.tmp 6)), []⟩, ⟨1, (some 2), none, .p (.mv (.const (.nils))), []⟩, ⟨2, (some 3), none, .p (.mv (.tmp 100)), []⟩, ⟨3, (some 4), none, .p (.mv (.const (.int .i64 7))), []⟩] 4 [2, 3, 4]) (.ret)) (.skip)))))))))))) (.seq (.seq (.ops [⟨0, (some 101), none, .p (.mv (.tmp 9)), []⟩, ⟨1, (some 102), none, .p (.bin .gtr (.tmp 101) (.const (.int .i64 0))), []⟩] 2 [0, 5, 6, 8, 9, 102]) (.cond (.tmp 102) (.ops [⟨0, (some 103), none, .p (.mv (.tmp 5)), []⟩, ⟨1, (some 104), none, .p (.mv (.tmp 9)), []⟩, ⟨2, (some 105), none, .p (.mv (.tmp 6)), []⟩, ⟨3, (some 106), none, .p (.mv (.tmp 0)), []⟩, ⟨4, (some 107), none, .p (.mv (.tmp 6)), []⟩, ⟨5, (some 108), none, .p (.mv (.tmp 8)), []⟩, ⟨6, (some 109), none, .p (.cuts (.tmp 106) (some (.tmp 107)) (some (.tmp 108))), []⟩, ⟨7, (some 110), none, .p (.build [.int .i64 0, .int .i64 0, .str []] [(0, 1, .tmp 104), (1, 1, .tmp 105), (2, 1, .tmp 109)]), []⟩, ⟨8, (some 111), none, .k { z := [.int .i64 0, .int .i64 0, .str []], len := 1, parts := [(0, .tmp 110)] }, []⟩, ⟨9, (some 112), none, .e (.append 3 32 (.tmp 103) (.tmp 111)), []⟩, ⟨10, (some 5), none, .p (.mv (.tmp 112)), []⟩] 11 [0, 5, 8]) (.skip))) (.ops [⟨0, (some 113), none, .p (.mv (.tmp 8)), []⟩, ⟨1, (some 6), none, .p (.mv (.tmp 113)), []⟩] 2 [0, 5, 6]))))))))))) (.seq (.ops [⟨0, (some 114), none, .p (.mv (.tmp 5)), []⟩, ⟨1, (some 2), none, .p (.mv (.tmp 114)), []⟩, ⟨2, (some 3), none, .p (.mv (.const (.int .i64 0))), []⟩, ⟨3, (some 4), none, .p (.mv (.const (.int .i64 0))), []⟩] 4 [2, 3, 4]) (.ret))))) }
def N70 : Notes := { note := fun _ => none, keep := fun | 26 => [2, 3, 4] | 25 => [0, 5, 6] | 24 => [0, 5, 8] | 23 => [0, 5, 6, 8, 9, 102] | 10 => [0, 5, 6, 8, 9] | 14 => [0, 5, 6, 8, 9] | 13 => [0, 5, 6, 8] | 12 => [0, 5, 6, 8, 61] | 18 => [0, 5, 6, 8, 9] | 17 => [0, 5, 6, 8] | 16 => [0, 5, 6, 8, 76] | 20 => [0, 5, 6, 8, 9] | 22 => [2, 3, 4] | 21 => [0, 5, 6, 8, 9, 96] | 19 => [0, 5, 6, 7, 8, 9, 79] | 15 => [0, 5, 6, 7, 8, 9, 64] | 11 => [0, 5, 6, 7, 8, 9, 37] | 9 => [0, 5, 6, 7, 8, 9, 22] | 8 => [0, 5, 6, 7, 8, 9] | 7 => [0, 5, 6, 7, 8] | 6 => [0, 5, 6, 7] | 5 => [0, 5, 6, 16] | 4 => [0, 5, 6] | 3 => [0, 5] | 2 => [2, 3, 4] | 1 => [0, 12] | 0 => [0] | _ => [] }
theorem A70_ok : cFn Try.prog qf N70 Try.f70 = some A70 := by kernel_rfl
inductive W70 where
  | mk (x0 x2 x3 x4 x5 x6 x7 x8 x9 x12 x16 x22 x37 x61 x64 x76 x79 x96 x102 : AV)
abbrev V70 := AV
def mo70 : W70 → Fr := fun ⟨x0, x2, x3, x4, x5, x6, x7, x8, x9, x12, x16, x22, x37, x61, x64, x76, x79, x96, x102⟩ => [x0, .top, x2, x3, x4, x5, x6, x7, x8, x9, .top, .top, x12, .top, .top, .top, x16, .top, .top, .top, .top, .top, x22, .top, .top, .top, .top, .top, .top, .top, .top, .top, .top, .top, .top, .top, .top, x37, .top, .top, .top, .top, .top, .top, .top, .top, .top, .top, .top, .top, .top, .top, .top, .top, .top, .top, .top, .top, .top, .top, .top, x61, .top, .top, x64, .top, .top, .top, .top, .top, .top, .top, .top, .top, .top, .top, x76, .top, .top, x79, .top, .top, .top, .top, .top, .top, .top, .top, .top, .top, .top, .top, .top, .top, .top, .top, x96, .top, .top, .top, .top, .top, x102, .top, .top, .top, .top, .top, .top, .top, .top, .top, .top, .top, .top]
def mi70 : V70 → Fr := fun x0 => [x0, .tup [], .tup [], .tup [], .tup [], .tup [], .tup [], .tup [], .tup [], .tup [], .tup [], .tup [], .tup [], .tup [], .tup [], .tup [], .tup [], .tup [], .tup [], .tup [], .tup [], .tup [], .tup [], .tup [], .tup [], .tup [], .tup [], .tup [], .tup [], .tup [], .tup [], .tup [], .tup [], .tup [], .tup [], .tup [], .tup [], .tup [], .tup [], .tup [], .tup [], .tup [], .tup [], .tup [], .tup [], .tup [], .tup [], .tup [], .tup [], .tup [], .tup [], .tup [], .tup [], .tup [], .tup [], .tup [], .tup [], .tup [], .tup [], .tup [], .tup [], .tup [], .tup [], .tup [], .tup [], .tup [], .tup [], .tup [], .tup [], .tup [], .tup [], .tup [], .tup [], .tup [], .tup [], .tup [], .tup [], .tup [], .tup [], .tup [], .tup [], .tup [], .tup [], .tup [], .tup [], .tup [], .tup [], .tup [], .tup [], .tup [], .tup [], .tup [], .tup [], .tup [], .tup [], .tup [], .tup [], .tup [], .tup [], .tup [], .tup [], .tup [], .tup [], .tup [], .tup [], .tup [], .tup [], .tup [], .tup [], .tup [], .tup [], .tup [], .tup [], .tup [], .tup []]
noncomputable def S70r0 {R : Type} (call : Nat → List AV → M AV) : V70 → Nat → AS → (W70 → AS → Option R) → Option R := fun x0 base s k =>
  k (.mk x0 .top .top .top .top .top .top .top .top .top .top .top .top .top .top .top .top .top .top) s
noncomputable def S70r1 {R : Type} (call : Nat → List AV → M AV) : W70 → Nat → AS → (W70 → AS → Option R) → Option R := @W70.rec (fun _ => Nat → AS → (W70 → AS → Option R) → Option R) fun x0 x2 x3 x4 x5 x6 x7 x8 x9 x12 x16 x22 x37 x61 x64 x76 x79 x96 x102 base s k =>
  bndP (lenAQ true x0) fun y0 =>
  bndP (binQ .gtr y0 ((.int .i64 100000) : AV)) fun y1 =>
  k (.mk x0 .top .top .top .top .top .top .top .top y1 .top .top .top .top .top .top .top .top .top) s
noncomputable def S70r2 {R : Type} (call : Nat → List AV → M AV) : W70 → Nat → AS → (W70 → AS → Option R) → Option R := @W70.rec (fun _ => Nat → AS → (W70 → AS → Option R) → Option R) fun x0 x2 x3 x4 x5 x6 x7 x8 x9 x12 x16 x22 x37 x61 x64 x76 x79 x96 x102 base s k =>
  k (.mk .top (.nils : AV) ((.int .i64 0) : AV) ((.int .i64 8) : AV) .top .top .top .top .top .top .top .top .top .top .top .top .top .top .top) s
noncomputable def S70r3 {R : Type} (call : Nat → List AV → M AV) : W70 → Nat → AS → (W70 → AS → Option R) → Option R := @W70.rec (fun _ => Nat → AS → (W70 → AS → Option R) → Option R) fun x0 x2 x3 x4 x5 x6 x7 x8 x9 x12 x16 x22 x37 x61 x64 x76 x79 x96 x102 base s k =>
  k (.mk x0 .top .top .top (.nils : AV) .top .top .top .top .top .top .top .top .top .top .top .top .top .top) s
noncomputable def S70r4 {R : Type} (call : Nat → List AV → M AV) : W70 → Nat → AS → (W70 → AS → Option R) → Option R := @W70.rec (fun _ => Nat → AS → (W70 → AS → Option R) → Option R) fun x0 x2 x3 x4 x5 x6 x7 x8 x9 x12 x16 x22 x37 x61 x64 x76 x79 x96 x102 base s k =>
  k (.mk x0 .top .top .top x5 ((.int .i64 0) : AV) .top .top .top .top .top .top .top .top .top .top .top .top .top) s
noncomputable def S70r5 {R : Type} (call : Nat → List AV → M AV) : W70 → Nat → AS → (W70 → AS → Option R) → Option R := @W70.rec (fun _ => Nat → AS → (W70 → AS → Option R) → Option R) fun x0 x2 x3 x4 x5 x6 x7 x8 x9 x12 x16 x22 x37 x61 x64 x76 x79 x96 x102 base s k =>
  bndP (lenAQ true x0) fun y0 =>
  bndP (binQ .lss x6 y0) fun y1 =>
  k (.mk x0 .top .top .top x5 x6 .top .top .top .top y1 .top .top .top .top .top .top .top .top) s
noncomputable def S70r6 {R : Type} (call : Nat → List AV → M AV) : W70 → Nat → AS → (W70 → AS → Option R) → Option R := @W70.rec (fun _ => Nat → AS → (W70 → AS → Option R) → Option R) fun x0 x2 x3 x4 x5 x6 x7 x8 x9 x12 x16 x22 x37 x61 x64 x76 x79 x96 x102 base s k =>
  bndP (idxsQ x0 x6) fun y0 =>
  k (.mk x0 .top .top .top x5 x6 y0 .top .top .top .top .top .top .top .top .top .top .top .top) s
noncomputable def S70r7 {R : Type} (call : Nat → List AV → M AV) : W70 → Nat → AS → (W70 → AS → Option R) → Option R := @W70.rec (fun _ => Nat → AS → (W70 → AS → Option R) → Option R) fun x0 x2 x3 x4 x5 x6 x7 x8 x9 x12 x16 x22 x37 x61 x64 x76 x79 x96 x102 base s k =>
  bndP (binQ .add x6 ((.int .i64 1) : AV)) fun y0 =>
  k (.mk x0 .top .top .top x5 x6 x7 y0 .top .top .top .top .top .top .top .top .top .top .top) s
noncomputable def S70r8 {R : Type} (call : Nat → List AV → M AV) : W70 → Nat → AS → (W70 → AS → Option R) → Option R := @W70.rec (fun _ => Nat → AS → (W70 → AS → Option R) → Option R) fun x0 x2 x3 x4 x5 x6 x7 x8 x9 x12 x16 x22 x37 x61 x64 x76 x79 x96 x102 base s k =>
  k (.mk x0 .top .top .top x5 x6 x7 x8 ((.int .i64 2) : AV) .top .top .top .top .top .top .top .top .top .top) s
noncomputable def S70r9 {R : Type} (call : Nat → List AV → M AV) : W70 → Nat → AS → (W70 → AS → Option R) → Option R := @W70.rec (fun _ => Nat → AS → (W70 → AS → Option R) → Option R) fun x0 x2 x3 x4 x5 x6 x7 x8 x9 x12 x16 x22 x37 x61 x64 x76 x79 x96 x102 base s k =>
  bndP (binQ .eql x7 ((.int .u8 32) : AV)) fun y0 =>
  bndO (gd (wantG y0 false) (fun s => (pureO (some x7) s)) s) fun y1 s =>
  bndO (gd (wantG y0 false) (fun s => (pureO (binQ .eql y1 ((.int .u8 9) : AV)) s)) s) fun y2 s =>
  bndP (pickA y0 ((.bool true) : AV) y2) fun y3 =>
  bndO (gd (wantG y3 false) (fun s => (pureO (some x7) s)) s) fun y4 s =>
  bndO (gd (wantG y3 false) (fun s => (pureO (binQ .eql y4 ((.int .u8 10) : AV)) s)) s) fun y5 s =>
  bndP (pickA y3 ((.bool true) : AV) y5) fun y6 =>
  bndO (gd (wantG y6 false) (fun s => (pureO (some x7) s)) s) fun y7 s =>
  bndO (gd (wantG y6 false) (fun s => (pureO (binQ .eql y7 ((.int .u8 13) : AV)) s)) s) fun y8 s =>
  bndP (pickA y6 ((.bool true) : AV) y8) fun y9 =>
  k (.mk x0 .top .top .top x5 x6 x7 x8 x9 .top .top y9 .top .top .top .top .top .top .top) s
noncomputable def S70r10 {R : Type} (call : Nat → List AV → M AV) : W70 → Nat → AS → (W70 → AS → Option R) → Option R := @W70.rec (fun _ => Nat → AS → (W70 → AS → Option R) → Option R) fun x0 x2 x3 x4 x5 x6 x7 x8 x9 x12 x16 x22 x37 x61 x64 x76 x79 x96 x102 base s k =>
  k (.mk x0 .top .top .top x5 x6 .top x8 ((.int .i64 0) : AV) .top .top .top .top .top .top .top .top .top .top) s
noncomputable def S70r11 {R : Type} (call : Nat → List AV → M AV) : W70 → Nat → AS → (W70 → AS → Option R) → Option R := @W70.rec (fun _ => Nat → AS → (W70 → AS → Option R) → Option R) fun x0 x2 x3 x4 x5 x6 x7 x8 x9 x12 x16 x22 x37 x61 x64 x76 x79 x96 x102 base s k =>
  bndP (binQ .eql x7 ((.int .u8 47) : AV)) fun y0 =>
  bndO (gd (wantG y0 true) (fun s => (pureO (some x8) s)) s) fun y1 s =>
  bndO (gd (wantG y0 true) (fun s => (pureO (some x0) s)) s) fun y2 s =>
  bndO (gd (wantG y0 true) (fun s => (pureO (lenAQ true y2) s)) s) fun y3 s =>
  bndO (gd (wantG y0 true) (fun s => (pureO (binQ .lss y1 y3) s)) s) fun y4 s =>
  bndP (pickA y0 y4 ((.bool false) : AV)) fun y5 =>
  bndO (gd (wantG y5 true) (fun s => (pureO (some x0) s)) s) fun y6 s =>
  bndO (gd (wantG y5 true) (fun s => (pureO (some x8) s)) s) fun y7 s =>
  bndO (gd (wantG y5 true) (fun s => (pureO (idxsQ y6 y7) s)) s) fun y8 s =>
  bndO (gd (wantG y5 true) (fun s => (pureO (binQ .eql y8 ((.int .u8 47) : AV)) s)) s) fun y9 s =>
  bndP (pickA y5 y9 ((.bool false) : AV)) fun y10 =>
  k (.mk x0 .top .top .top x5 x6 x7 x8 x9 .top .top .top y10 .top .top .top .top .top .top) s
noncomputable def S70r12 {R : Type} (call : Nat → List AV → M AV) : W70 → Nat → AS → (W70 → AS → Option R) → Option R := @W70.rec (fun _ => Nat → AS → (W70 → AS → Option R) → Option R) fun x0 x2 x3 x4 x5 x6 x7 x8 x9 x12 x16 x22 x37 x61 x64 x76 x79 x96 x102 base s k =>
  bndP (lenAQ true x0) fun y0 =>
  bndP (binQ .lss x8 y0) fun y1 =>
  bndO (gd (wantG y1 true) (fun s => (pureO (some x0) s)) s) fun y2 s =>
  bndO (gd (wantG y1 true) (fun s => (pureO (some x8) s)) s) fun y3 s =>
  bndO (gd (wantG y1 true) (fun s => (pureO (idxsQ y2 y3) s)) s) fun y4 s =>
  bndO (gd (wantG y1 true) (fun s => (pureO (binQ .neq y4 ((.int .u8 10) : AV)) s)) s) fun y5 s =>
  bndP (pickA y1 y5 ((.bool false) : AV)) fun y6 =>
  k (.mk x0 .top .top .top x5 x6 .top x8 .top .top .top .top .top y6 .top .top .top .top .top) s
noncomputable def S70r13 {R : Type} (call : Nat → List AV → M AV) : W70 → Nat → AS → (W70 → AS → Option R) → Option R := @W70.rec (fun _ => Nat → AS → (W70 → AS → Option R) → Option R) fun x0 x2 x3 x4 x5 x6 x7 x8 x9 x12 x16 x22 x37 x61 x64 x76 x79 x96 x102 base s k =>
  bndP (binQ .add x8 ((.int .i64 1) : AV)) fun y0 =>
  k (.mk x0 .top .top .top x5 x6 .top y0 .top .top .top .top .top .top .top .top .top .top .top) s
noncomputable def S70b14 {R : Type} (call : Nat → List AV → M AV) (fuel : Nat) : SC W70 W70 R := sSeq (sSeq (sReg 10 (S70r12 call)) (sCond (@W70.rec (fun _ => AV) fun _ _ _ _ _ _ _ _ _ _ _ _ _ x61 _ _ _ _ _ => x61) (sSkip) (sExit 3))) (sBlock 4 (sReg 3 (S70r13 call)))
noncomputable def S70r15 {R : Type} (call : Nat → List AV → M AV) : W70 → Nat → AS → (W70 → AS → Option R) → Option R := @W70.rec (fun _ => Nat → AS → (W70 → AS → Option R) → Option R) fun x0 x2 x3 x4 x5 x6 x7 x8 x9 x12 x16 x22 x37 x61 x64 x76 x79 x96 x102 base s k =>
  k (.mk x0 .top .top .top x5 x6 .top x8 ((.int .i64 0) : AV) .top .top .top .top .top .top .top .top .top .top) s
noncomputable def S70r16 {R : Type} (call : Nat → List AV → M AV) : W70 → Nat → AS → (W70 → AS → Option R) → Option R := @W70.rec (fun _ => Nat → AS → (W70 → AS → Option R) → Option R) fun x0 x2 x3 x4 x5 x6 x7 x8 x9 x12 x16 x22 x37 x61 x64 x76 x79 x96 x102 base s k =>
  bndO (quietQ call 97 [x7] s) fun y0 s =>
  k (.mk x0 .top .top .top x5 x6 x7 x8 x9 .top .top .top .top .top y0 .top .top .top .top) s
noncomputable def S70r17 {R : Type} (call : Nat → List AV → M AV) : W70 → Nat → AS → (W70 → AS → Option R) → Option R := @W70.rec (fun _ => Nat → AS → (W70 → AS → Option R) → Option R) fun x0 x2 x3 x4 x5 x6 x7 x8 x9 x12 x16 x22 x37 x61 x64 x76 x79 x96 x102 base s k =>
  bndP (lenAQ true x0) fun y0 =>
  bndP (binQ .lss x8 y0) fun y1 =>
  bndO (gd (wantG y1 true) (fun s => (pureO (some x0) s)) s) fun y2 s =>
  bndO (gd (wantG y1 true) (fun s => (pureO (some x8) s)) s) fun y3 s =>
  bndO (gd (wantG y1 true) (fun s => (pureO (idxsQ y2 y3) s)) s) fun y4 s =>
  bndO (gd (wantG y1 true) (fun s => (quietQ call 97 [y4] s)) s) fun y5 s =>
  bndP (pickA y1 y5 ((.bool false) : AV)) fun y6 =>
  k (.mk x0 .top .top .top x5 x6 .top x8 .top .top .top .top .top .top .top y6 .top .top .top) s
noncomputable def S70r18 {R : Type} (call : Nat → List AV → M AV) : W70 → Nat → AS → (W70 → AS → Option R) → Option R := @W70.rec (fun _ => Nat → AS → (W70 → AS → Option R) → Option R) fun x0 x2 x3 x4 x5 x6 x7 x8 x9 x12 x16 x22 x37 x61 x64 x76 x79 x96 x102 base s k =>
  bndP (binQ .add x8 ((.int .i64 1) : AV)) fun y0 =>
  k (.mk x0 .top .top .top x5 x6 .top y0 .top .top .top .top .top .top .top .top .top .top .top) s
noncomputable def S70b19 {R : Type} (call : Nat → List AV → M AV) (fuel : Nat) : SC W70 W70 R := sSeq (sSeq (sReg 10 (S70r17 call)) (sCond (@W70.rec (fun _ => AV) fun _ _ _ _ _ _ _ _ _ _ _ _ _ _ _ x76 _ _ _ => x76) (sSkip) (sExit 5))) (sBlock 6 (sReg 3 (S70r18 call)))
noncomputable def S70r20 {R : Type} (call : Nat → List AV → M AV) : W70 → Nat → AS → (W70 → AS → Option R) → Option R := @W70.rec (fun _ => Nat → AS → (W70 → AS → Option R) → Option R) fun x0 x2 x3 x4 x5 x6 x7 x8 x9 x12 x16 x22 x37 x61 x64 x76 x79 x96 x102 base s k =>
  k (.mk x0 .top .top .top x5 x6 .top x8 ((.int .i64 1) : AV) .top .top .top .top .top .top .top .top .top .top) s
noncomputable def S70r21 {R : Type} (call : Nat → List AV → M AV) : W70 → Nat → AS → (W70 → AS → Option R) → Option R := @W70.rec (fun _ => Nat → AS → (W70 → AS → Option R) → Option R) fun x0 x2 x3 x4 x5 x6 x7 x8 x9 x12 x16 x22 x37 x61 x64 x76 x79 x96 x102 base s k =>
  bndP (binQ .eql x7 ((.int .u8 45) : AV)) fun y0 =>
  bndO (gd (wantG y0 true) (fun s => (pureO (some x8) s)) s) fun y1 s =>
  bndO (gd (wantG y0 true) (fun s => (pureO (some x0) s)) s) fun y2 s =>
  bndO (gd (wantG y0 true) (fun s => (pureO (lenAQ true y2) s)) s) fun y3 s =>
  bndO (gd (wantG y0 true) (fun s => (pureO (binQ .lss y1 y3) s)) s) fun y4 s =>
  bndP (pickA y0 y4 ((.bool false) : AV)) fun y5 =>
  bndO (gd (wantG y5 true) (fun s => (pureO (some x0) s)) s) fun y6 s =>
  bndO (gd (wantG y5 true) (fun s => (pureO (some x8) s)) s) fun y7 s =>
  bndO (gd (wantG y5 true) (fun s => (pureO (idxsQ y6 y7) s)) s) fun y8 s =>
  bndO (gd (wantG y5 true) (fun s => (pureO (binQ .eql y8 ((.int .u8 62) : AV)) s)) s) fun y9 s =>
  bndP (pickA y5 y9 ((.bool false) : AV)) fun y10 =>
  k (.mk x0 .top .top .top x5 x6 x7 x8 x9 .top .top .top .top .top .top .top y10 .top .top) s
noncomputable def S70r22 {R : Type} (call : Nat → List AV → M AV) : W70 → Nat → AS → (W70 → AS → Option R) → Option R := @W70.rec (fun _ => Nat → AS → (W70 → AS → Option R) → Option R) fun x0 x2 x3 x4 x5 x6 x7 x8 x9 x12 x16 x22 x37 x61 x64 x76 x79 x96 x102 base s k =>
  bndP (binQ .add x8 ((.int .i64 1) : AV)) fun y0 =>
  k (.mk x0 .top .top .top x5 x6 .top y0 x9 .top .top .top .top .top .top .top .top .top .top) s
noncomputable def S70r23 {R : Type} (call : Nat → List AV → M AV) : W70 → Nat → AS → (W70 → AS → Option R) → Option R := @W70.rec (fun _ => Nat → AS → (W70 → AS → Option R) → Option R) fun x0 x2 x3 x4 x5 x6 x7 x8 x9 x12 x16 x22 x37 x61 x64 x76 x79 x96 x102 base s k =>
  bndO (quietQ call 98 [((.str [123, 125, 58, 59, 124, 35, 61, 43, 45, 38, 40, 41]) : AV), x7, ((.int .i64 0) : AV)] s) fun y0 s =>
  bndP (binQ .lss y0 ((.int .i64 0) : AV)) fun y1 =>
  k (.mk x0 .top .top .top x5 x6 .top x8 x9 .top .top .top .top .top .top .top .top y1 .top) s
noncomputable def S70r24 {R : Type} (call : Nat → List AV → M AV) : W70 → Nat → AS → (W70 → AS → Option R) → Option R := @W70.rec (fun _ => Nat → AS → (W70 → AS → Option R) → Option R) fun x0 x2 x3 x4 x5 x6 x7 x8 x9 x12 x16 x22 x37 x61 x64 x76 x79 x96 x102 base s k =>
  k (.mk .top (.nils : AV) x6 ((.int .i64 7) : AV) .top .top .top .top .top .top .top .top .top .top .top .top .top .top .top) s
noncomputable def S70r25 {R : Type} (call : Nat → List AV → M AV) : W70 → Nat → AS → (W70 → AS → Option R) → Option R := @W70.rec (fun _ => Nat → AS → (W70 → AS → Option R) → Option R) fun x0 x2 x3 x4 x5 x6 x7 x8 x9 x12 x16 x22 x37 x61 x64 x76 x79 x96 x102 base s k =>
  bndP (binQ .gtr x9 ((.int .i64 0) : AV)) fun y0 =>
  k (.mk x0 .top .top .top x5 x6 .top x8 x9 .top .top .top .top .top .top .top .top .top y0) s
noncomputable def S70r26 {R : Type} (call : Nat → List AV → M AV) : W70 → Nat → AS → (W70 → AS → Option R) → Option R := @W70.rec (fun _ => Nat → AS → (W70 → AS → Option R) → Option R) fun x0 x2 x3 x4 x5 x6 x7 x8 x9 x12 x16 x22 x37 x61 x64 x76 x79 x96 x102 base s k =>
  bndP (cutsQ x0 (some x6) (some x8)) fun y0 =>
  bndP (buildA [(.int .i64 0), (.int .i64 0), (.str [])] [(0, 1, x9), (1, 1, x6), (2, 1, y0)]) fun y1 =>
  bndP (rowsA [(.int .i64 0), (.int .i64 0), (.str [])] 1 [(0, y1)]) fun y2 =>
  bndO (appQ (base + 9) 3 32 x5 y2 s) fun y3 s =>
  k (.mk x0 .top .top .top y3 .top .top x8 .top .top .top .top .top .top .top .top .top .top .top) s
noncomputable def S70r27 {R : Type} (call : Nat → List AV → M AV) : W70 → Nat → AS → (W70 → AS → Option R) → Option R := @W70.rec (fun _ => Nat → AS → (W70 → AS → Option R) → Option R) fun x0 x2 x3 x4 x5 x6 x7 x8 x9 x12 x16 x22 x37 x61 x64 x76 x79 x96 x102 base s k =>
  k (.mk x0 .top .top .top x5 x8 .top .top .top .top .top .top .top .top .top .top .top .top .top) s
noncomputable def S70b28 {R : Type} (call : Nat → List AV → M AV) (fuel : Nat) : SC W70 W70 R := sSeq (sSeq (sReg 4 (S70r5 call)) (sCond (@W70.rec (fun _ => AV) fun _ _ _ _ _ _ _ _ _ _ x16 _ _ _ _ _ _ _ _ => x16) (sSkip) (sExit 0))) (sBlock 1 (sSeq (sReg 4 (S70r6 call)) (sSeq (sReg 3 (S70r7 call)) (sSeq (sReg 1 (S70r8 call)) (sSeq (sBlock 2 (sSeq (sReg 15 (S70r9 call)) (sCond (@W70.rec (fun _ => AV) fun _ _ _ _ _ _ _ _ _ _ _ x22 _ _ _ _ _ _ _ => x22) (sReg 1 (S70r10 call)) (sSeq (sReg 15 (S70r11 call)) (sCond (@W70.rec (fun _ => AV) fun _ _ _ _ _ _ _ _ _ _ _ _ x37 _ _ _ _ _ _ => x37) (sSeq (sBlock 3 (sLoop fuel (S70b14 call fuel))) (sReg 1 (S70r15 call))) (sSeq (sReg 3 (S70r16 call)) (sCond (@W70.rec (fun _ => AV) fun _ _ _ _ _ _ _ _ _ _ _ _ _ _ x64 _ _ _ _ => x64) (sSeq (sBlock 5 (sLoop fuel (S70b19 call fuel))) (sReg 1 (S70r20 call))) (sSeq (sReg 15 (S70r21 call)) (sCond (@W70.rec (fun _ => AV) fun _ _ _ _ _ _ _ _ _ _ _ _ _ _ _ _ x79 _ _ => x79) (sReg 3 (S70r22 call)) (sSeq (sReg 4 (S70r23 call)) (sCond (@W70.rec (fun _ => AV) fun _ _ _ _ _ _ _ _ _ _ _ _ _ _ _ _ _ x96 _ => x96) (sSeq (sReg 4 (S70r24 call)) (sRet)) (sSkip)))))))))))) (sSeq (sSeq (sReg 2 (S70r25 call)) (sCond (@W70.rec (fun _ => AV) fun _ _ _ _ _ _ _ _ _ _ _ _ _ _ _ _ _ _ x102 => x102) (sReg 11 (S70r26 call)) (sSkip))) (sReg 2 (S70r27 call))))))))
noncomputable def S70r29 {R : Type} (call : Nat → List AV → M AV) : W70 → Nat → AS → (W70 → AS → Option R) → Option R := @W70.rec (fun _ => Nat → AS → (W70 → AS → Option R) → Option R) fun x0 x2 x3 x4 x5 x6 x7 x8 x9 x12 x16 x22 x37 x61 x64 x76 x79 x96 x102 base s k =>
  k (.mk .top x5 ((.int .i64 0) : AV) ((.int .i64 0) : AV) .top .top .top .top .top .top .top .top .top .top .top .top .top .top .top) s
noncomputable def S70c {R : Type} (call : Nat → List AV → M AV) (fuel : Nat) : SC V70 W70 R := sSeq (sReg 3 (S70r0 call)) (sSeq (sSeq (sReg 3 (S70r1 call)) (sCond (@W70.rec (fun _ => AV) fun _ _ _ _ _ _ _ _ _ x12 _ _ _ _ _ _ _ _ _ => x12) (sSeq (sReg 3 (S70r2 call)) (sRet)) (sSkip))) (sSeq (sReg 1 (S70r3 call)) (sSeq (sSeq (sReg 1 (S70r4 call)) (sBlock 0 (sLoop fuel (S70b28 call fuel)))) (sSeq (sReg 4 (S70r29 call)) (sRet)))))
noncomputable def S70e : Ex → W70 → AS → Option (AV × AS) := fun e w s => (@W70.rec (fun _ => Option (AV × AS)) fun _ x2 x3 x4 _ _ _ _ _ _ _ _ _ _ _ _ _ _ _ => @Ex.rec (fun _ => Option (AV × AS)) (some (.tup [x2, x3, x4], s)) (fun _ => none) (some (.tup [x2, x3, x4], s)) e) w
noncomputable def S70 (call : Nat → List AV → M AV) (fuel : Nat) (args : List AV) (s : AS) : Option (AV × AS) := match args with
  | [x0] => S70c call fuel x0 s S70e
  | _ => none
theorem S70_sim (call : Nat → List AV → M AV) (fuel : Nat) : Sim (R := AV × AS) call fuel mi70 mo70 A70.code (S70c call fuel) := by
  refine sim_seq (sim_reg (fun x0 _ _ _ => by kernel_rfl)) (sim_seq (sim_seq (sim_reg (fun ⟨x0, x2, x3, x4, x5, x6, x7, x8, x9, x12, x16, x22, x37, x61, x64, x76, x79, x96, x102⟩ _ _ _ => by kernel_rfl)) (sim_cond (fun ⟨x0, x2, x3, x4, x5, x6, x7, x8, x9, x12, x16, x22, x37, x61, x64, x76, x79, x96, x102⟩ => by kernel_rfl) (sim_seq (sim_reg (fun ⟨x0, x2, x3, x4, x5, x6, x7, x8, x9, x12, x16, x22, x37, x61, x64, x76, x79, x96, x102⟩ _ _ _ => by kernel_rfl)) (sim_ret)) (sim_skip))) (sim_seq (sim_reg (fun ⟨x0, x2, x3, x4, x5, x6, x7, x8, x9, x12, x16, x22, x37, x61, x64, x76, x79, x96, x102⟩ _ _ _ => by kernel_rfl)) (sim_seq (sim_seq (sim_reg (fun ⟨x0, x2, x3, x4, x5, x6, x7, x8, x9, x12, x16, x22, x37, x61, x64, x76, x79, x96, x102⟩ _ _ _ => by kernel_rfl)) (sim_block (sim_loop (sim_seq (sim_seq (sim_reg (fun ⟨x0, x2, x3, x4, x5, x6, x7, x8, x9, x12, x16, x22, x37, x61, x64, x76, x79, x96, x102⟩ _ _ _ => by kernel_rfl)) (sim_cond (fun ⟨x0, x2, x3, x4, x5, x6, x7, x8, x9, x12, x16, x22, x37, x61, x64, x76, x79, x96, x102⟩ => by kernel_rfl) (sim_skip) (sim_exit))) (sim_block (sim_seq (sim_reg (fun ⟨x0, x2, x3, x4, x5, x6, x7, x8, x9, x12, x16, x22, x37, x61, x64, x76, x79, x96, x102⟩ _ _ _ => by kernel_rfl)) (sim_seq (sim_reg (fun ⟨x0, x2, x3, x4, x5, x6, x7, x8, x9, x12, x16, x22, x37, x61, x64, x76, x79, x96, x102⟩ _ _ _ => by kernel_rfl)) (sim_seq (sim_reg (fun ⟨x0, x2, x3, x4, x5, x6, x7, x8, x9, x12, x16, x22, x37, x61, x64, x76, x79, x96, x102⟩ _ _ _ => by kernel_rfl)) (sim_seq (sim_block (sim_seq (sim_reg (fun ⟨x0, x2, x3, x4, x5, x6, x7, x8, x9, x12, x16, x22, x37, x61, x64, x76, x79, x96, x102⟩ _ _ _ => by kernel_rfl)) (sim_cond (fun ⟨x0, x2, x3, x4, x5, x6, x7, x8, x9, x12, x16, x22, x37, x61, x64, x76, x79, x96, x102⟩ => by kernel_rfl) (sim_reg (fun ⟨x0, x2, x3, x4, x5, x6, x7, x8, x9, x12, x16, x22, x37, x61, x64, x76, x79, x96, x102⟩ _ _ _ => by kernel_rfl)) (sim_seq (sim_reg (fun ⟨x0, x2, x3, x4, x5, x6, x7, x8, x9, x12, x16, x22, x37, x61, x64, x76, x79, x96, x102⟩ _ _ _ => by kernel_rfl)) (sim_cond (fun ⟨x0, x2, x3, x4, x5, x6, x7, x8, x9, x12, x16, x22, x37, x61, x64, x76, x79, x96, x102⟩ => by kernel_rfl) (sim_seq (sim_block (sim_loop (sim_seq (sim_seq (sim_reg (fun ⟨x0, x2, x3, x4, x5, x6, x7, x8, x9, x12, x16, x22, x37, x61, x64, x76, x79, x96, x102⟩ _ _ _ => by kernel_rfl)) (sim_cond (fun ⟨x0, x2, x3, x4, x5, x6, x7, x8, x9, x12, x16, x22, x37, x61, x64, x76, x79, x96, x102⟩ => by kernel_rfl) (sim_skip) (sim_exit))) (sim_block (sim_reg (fun ⟨x0, x2, x3, x4, x5, x6, x7, x8, x9, x12, x16, x22, x37, x61, x64, x76, x79, x96, x102⟩ _ _ _ => by kernel_rfl)))))) (sim_reg (fun ⟨x0, x2, x3, x4, x5, x6, x7, x8, x9, x12, x16, x22, x37, x61, x64, x76, x79, x96, x102⟩ _ _ _ => by kernel_rfl))) (sim_seq (sim_reg (fun ⟨x0, x2, x3, x4, x5, x6, x7, x8, x9, x12, x16, x22, x37, x61, x64, x76, x79, x96, x102⟩ _ _ _ => by kernel_rfl)) (sim_cond (fun ⟨x0, x2, x3, x4, x5, x6, x7, x8, x9, x12, x16, x22, x37, x61, x64, x76, x79, x96, x102⟩ => by kernel_rfl) (sim_seq (sim_block (sim_loop (sim_seq (sim_seq (sim_reg (fun ⟨x0, x2, x3, x4, x5, x6, x7, x8, x9, x12, x16, x22, x37, x61, x64, x76, x79, x96, x102⟩ _ _ _ => by kernel_rfl)) (sim_cond (fun ⟨x0, x2, x3, x4, x5, x6, x7, x8, x9, x12, x16, x22, x37, x61, x64, x76, x79, x96, x102⟩ => by kernel_rfl) (sim_skip) (sim_exit))) (sim_block (sim_reg (fun ⟨x0, x2, x3, x4, x5, x6, x7, x8, x9, x12, x16, x22, x37, x61, x64, x76, x79, x96, x102⟩ _ _ _ => by kernel_rfl)))))) (sim_reg (fun ⟨x0, x2, x3, x4, x5, x6, x7, x8, x9, x12, x16, x22, x37, x61, x64, x76, x79, x96, x102⟩ _ _ _ => by kernel_rfl))) (sim_seq (sim_reg (fun ⟨x0, x2, x3, x4, x5, x6, x7, x8, x9, x12, x16, x22, x37, x61, x64, x76, x79, x96, x102⟩ _ _ _ => by kernel_rfl)) (sim_cond (fun ⟨x0, x2, x3, x4, x5, x6, x7, x8, x9, x12, x16, x22, x37, x61, x64, x76, x79, x96, x102⟩ => by kernel_rfl) (sim_reg (fun ⟨x0, x2, x3, x4, x5, x6, x7, x8, x9, x12, x16, x22, x37, x61, x64, x76, x79, x96, x102⟩ _ _ _ => by kernel_rfl)) (sim_seq (sim_reg (fun ⟨x0, x2, x3, x4, x5, x6, x7, x8, x9, x12, x16, x22, x37, x61, x64, x76, x79, x96, x102⟩ _ _ _ => by kernel_rfl)) (sim_cond (fun ⟨x0, x2, x3, x4, x5, x6, x7, x8, x9, x12, x16, x22, x37, x61, x64, x76, x79, x96, x102⟩ => by kernel_rfl) (sim_seq (sim_reg (fun ⟨x0, x2, x3, x4, x5, x6, x7, x8, x9, x12, x16, x22, x37, x61, x64, x76, x79, x96, x102⟩ _ _ _ => by kernel_rfl)) (sim_ret)) (sim_skip)))))))))))) (sim_seq (sim_seq (sim_reg (fun ⟨x0, x2, x3, x4, x5, x6, x7, x8, x9, x12, x16, x22, x37, x61, x64, x76, x79, x96, x102⟩ _ _ _ => by kernel_rfl)) (sim_cond (fun ⟨x0, x2, x3, x4, x5, x6, x7, x8, x9, x12, x16, x22, x37, x61, x64, x76, x79, x96, x102⟩ => by kernel_rfl) (sim_reg (fun ⟨x0, x2, x3, x4, x5, x6, x7, x8, x9, x12, x16, x22, x37, x61, x64, x76, x79, x96, x102⟩ _ _ _ => by kernel_rfl)) (sim_skip))) (sim_reg (fun ⟨x0, x2, x3, x4, x5, x6, x7, x8, x9, x12, x16, x22, x37, x61, x64, x76, x79, x96, x102⟩ _ _ _ => by kernel_rfl)))))))))))) (sim_seq (sim_reg (fun ⟨x0, x2, x3, x4, x5, x6, x7, x8, x9, x12, x16, x22, x37, x61, x64, x76, x79, x96, x102⟩ _ _ _ => by kernel_rfl)) (sim_ret)))))
theorem S70_ok (call : Nat → List AV → M AV) (fuel : Nat) (args : List AV) (s : AS) : afn call fuel A70 args s = S70 call fuel args s := by
  rcases args with _ | ⟨x0, _ | ⟨x1, r⟩⟩
  · kernel_rfl
  · exact (afn_sim (S70_sim call fuel) (v := x0) (e2 := S70e) (by kernel_rfl) (by kernel_rfl) (fun e w s => by cases w; cases e <;> kernel_rfl)).trans (by kernel_rfl)
  · kernel_rfl
def A71 : AFn := { nargs := 2, ntmps := 18, res := [], code := .seq (.ops [⟨0, (some 4), none, .p (.mv (.tmp 0)), []⟩, ⟨1, (some 5), none, .p (.nilchk (.tmp 4)), []⟩, ⟨2, (some 6), none, .p (.fld 3 (.tmp 5)), []⟩, ⟨3, (some 7), none, .r (.load false 1 (.tmp 6)), []⟩, ⟨4, (some 8), none, .p (.bin .eql (.tmp 7) (.const (.int .i64 0))), []⟩] 5 [0, 1, 8]) (.cond (.tmp 8) (.ops [⟨0, (some 9), none, .p (.mv (.tmp 0)), []⟩, ⟨1, (some 10), none, .p (.mv (.tmp 0)), []⟩, ⟨2, (some 11), none, .p (.mv (.tmp 1)), []⟩, ⟨3, (some 12), none, .p (.mv (.tmp 0)), []⟩, ⟨4, (some 13), none, .e (.call true 99 [.tmp 12]), []⟩, ⟨5, (some 14), none, .p (.nilchk (.tmp 9)), []⟩, ⟨6, (some 15), none, .p (.fld 3 (.tmp 14)), []⟩, ⟨7, none, none, .e (.store (.tmp 15) (.tmp 11) 1), []⟩, ⟨8, (some 16), none, .p (.nilchk (.tmp 10)), []⟩, ⟨9, (some 17), none, .p (.fld 4 (.tmp 16)), []⟩, ⟨10, none, none, .e (.store (.tmp 17) (.tmp 13) 1), []⟩] 11 []) (.skip)) }
def N71 : Notes := { note := fun _ => none, keep := fun | 1 => [] | 0 => [0, 1, 8] | _ => [] }
theorem A71_ok : cFn Try.prog qf N71 Try.f71 = some A71 := by kernel_rfl
inductive W71 where
  | mk (x0 x1 x8 : AV)
inductive V71 where
  | mk (x0 x1 : AV)
def mo71 : W71 → Fr := fun ⟨x0, x1, x8⟩ => [x0, x1, .top, .top, .top, .top, .top, .top, x8, .top, .top, .top, .top, .top, .top, .top, .top, .top]
def mi71 : V71 → Fr := fun ⟨x0, x1⟩ => [x0, x1, .tup [], .tup [], .tup [], .tup [], .tup [], .tup [], .tup [], .tup [], .tup [], .tup [], .tup [], .tup [], .tup [], .tup [], .tup [], .tup []]
noncomputable def S71r0 {R : Type} (call : Nat → List AV → M AV) : V71 → Nat → AS → (W71 → AS → Option R) → Option R := @V71.rec (fun _ => Nat → AS → (W71 → AS → Option R) → Option R) fun x0 x1 base s k =>
  bndP (nilchkA x0) fun y0 =>
  bndP (fldA 3 y0) fun y1 =>
  bndP (loadQ false 1 y1 s.h) fun y2 =>
  bndP (binQ .eql y2 ((.int .i64 0) : AV)) fun y3 =>
  k (.mk x0 x1 y3) s
noncomputable def S71r1 {R : Type} (call : Nat → List AV → M AV) : W71 → Nat → AS → (W71 → AS → Option R) → Option R := @W71.rec (fun _ => Nat → AS → (W71 → AS → Option R) → Option R) fun x0 x1 x8 base s k =>
  bndO (quietQ call 99 [x0] s) fun y0 s =>
  bndP (nilchkA x0) fun y1 =>
  bndP (fldA 3 y1) fun y2 =>
  bndO (storeQ y2 x1 1 s) fun _ s =>
  bndP (nilchkA x0) fun y3 =>
  bndP (fldA 4 y3) fun y4 =>
  bndO (storeQ y4 y0 1 s) fun _ s =>
  k (.mk .top .top .top) s
noncomputable def S71c {R : Type} (call : Nat → List AV → M AV) (fuel : Nat) : SC V71 W71 R := sSeq (sReg 5 (S71r0 call)) (sCond (@W71.rec (fun _ => AV) fun _ _ x8 => x8) (sReg 11 (S71r1 call)) (sSkip))
noncomputable def S71e : Ex → W71 → AS → Option (AV × AS) := fun e w s => (@W71.rec (fun _ => Option (AV × AS)) fun _ _ _ => @Ex.rec (fun _ => Option (AV × AS)) (some (.tup [], s)) (fun _ => none) (some (.tup [], s)) e) w
noncomputable def S71 (call : Nat → List AV → M AV) (fuel : Nat) (args : List AV) (s : AS) : Option (AV × AS) := match args with
  | [x0, x1] => S71c call fuel (.mk x0 x1) s S71e
  | _ => none
theorem S71_sim (call : Nat → List AV → M AV) (fuel : Nat) : Sim (R := AV × AS) call fuel mi71 mo71 A71.code (S71c call fuel) := by
  refine sim_seq (sim_reg (fun ⟨x0, x1⟩ _ _ _ => by kernel_rfl)) (sim_cond (fun ⟨x0, x1, x8⟩ => by kernel_rfl) (sim_reg (fun ⟨x0, x1, x8⟩ _ _ _ => by kernel_rfl)) (sim_skip))
theorem S71_ok (call : Nat → List AV → M AV) (fuel : Nat) (args : List AV) (s : AS) : afn call fuel A71 args s = S71 call fuel args s := by
  rcases args with _ | ⟨x0, _ | ⟨x1, _ | ⟨x2, r⟩⟩⟩
  · kernel_rfl
  · kernel_rfl
  · exact (afn_sim (S71_sim call fuel) (v := (.mk x0 x1)) (e2 := S71e) (by kernel_rfl) (by kernel_rfl) (fun e w s => by cases w; cases e <;> kernel_rfl)).trans (by kernel_rfl)
  · kernel_rfl
def A72 : AFn := { nargs := 1, ntmps := 68, res := [.tmp 2], code := .seq (.ops [⟨0, (some 2), none, .p (.mv (.const (.str []))), []⟩] 1 [0]) (.seq (.seq (.ops [⟨0, (some 3), none, .p (.mv (.tmp 0)), []⟩, ⟨1, (some 4), none, .p (.nilchk (.tmp 3)), []⟩, ⟨2, (some 5), none, .p (.fld 3 (.tmp 4)), []⟩, ⟨3, (some 6), none, .r (.load false 1 (.tmp 5)), []⟩, ⟨4, (some 7), none, .p (.bin .neq (.tmp 6) (.const (.int .i64 0))), []⟩] 5 [0, 7]) (.cond (.tmp 7) (.seq (.ops [⟨0, (some 2), none, .p (.mv (.const (.str []))), []⟩] 1 [2]) (.ret)) (.skip))) (.seq (.seq (.ops [⟨0, (some 8), none, .p (.mv (.tmp 0)), []⟩, ⟨1, (some 9), none, .p (.nilchk (.tmp 8)), []⟩, ⟨2, (some 10), none, .p (.fld 1 (.tmp 9)), []⟩, ⟨4, (some 12), none, .p (.mv (.tmp 0)), []⟩, ⟨5, (some 13), none, .p (.nilchk (.tmp 12)), []⟩, ⟨6, (some 14), none, .p (.fld 0 (.tmp 13)), []⟩, ⟨3, (some 11), none, .r (.load false 1 (.tmp 10)), []⟩, ⟨7, (some 15), none, .r (.load false 1 (.tmp 14)), []⟩, ⟨8, (some 16), none, .p (.lenS false (.tmp 15)), []⟩, ⟨9, (some 17), none, .p (.bin .geq (.tmp 11) (.tmp 16)), []⟩, ⟨10, (some 18), none, .p (.mv (.tmp 17)), []⟩, ⟨11, (some 19), (some (18, false)), .p (.mv (.tmp 0)), []⟩, ⟨12, (some 20), (some (18, false)), .p (.nilchk (.tmp 19)), []⟩, ⟨13, (some 21), (some (18, false)), .p (.fld 0 (.tmp 20)), []⟩, ⟨15, (some 23), (some (18, false)), .p (.mv (.tmp 0)), []⟩, ⟨16, (some 24), (some (18, false)), .p (.nilchk (.tmp 23)), []⟩, ⟨17, (some 25), (some (18, false)), .p (.fld 1 (.tmp 24)), []⟩, ⟨14, (some 22), (some (18, false)), .r (.load false 1 (.tmp 21)), []⟩, ⟨18, (some 26), (some (18, false)), .r (.load false 1 (.tmp 25)), []⟩, ⟨19, (some 27), (some (18, false)), .p (.idx 3 (.tmp 22) (.tmp 26)), []⟩, ⟨20, (some 28), (some (18, false)), .p (.fld 0 (.tmp 27)), []⟩, ⟨21, (some 29), (some (18, false)), .r (.load false 1 (.tmp 28)), []⟩, ⟨22, (some 30), (some (18, false)), .p (.bin .neq (.tmp 29) (.const (.int .i64 1))), []⟩, ⟨23, (some 31), none, .p (.pick (.tmp 18) (.const (.bool true)) (.tmp 30)), []⟩, ⟨24, (some 32), none, .p (.mv (.tmp 31)), []⟩, ⟨25, (some 33), (some (32, false)), .p (.mv (.tmp 0)), []⟩, ⟨26, (some 34), (some (32, false)), .p (.nilchk (.tmp 33)), []⟩, ⟨27, (some 35), (some (32, false)), .p (.fld 0 (.tmp 34)), []⟩, ⟨29, (some 37), (some (32, false)), .p (.mv (.tmp 0)), []⟩, ⟨30, (some 38), (some (32, false)), .p (.nilchk (.tmp 37)), []⟩, ⟨31, (some 39), (some (32, false)), .p (.fld 1 (.tmp 38)), []⟩, ⟨28, (some 36), (some (32, false)), .r (.load false 1 (.tmp 35)), []⟩, ⟨32, (some 40), (some (32, false)), .r (.load false 1 (.tmp 39)), []⟩, ⟨33, (some 41), (some (32, false)), .p (.idx 3 (.tmp 36) (.tmp 40)), []⟩, ⟨34, (some 42), (some (32, false)), .p (.fld 2 (.tmp 41)), []⟩, ⟨35, (some 43), (some (32, false)), .r (.load false 1 (.tmp 42)), []⟩, ⟨36, (some 44), (some (32, false)), .e (.call true 100 [.tmp 43]), []⟩, ⟨37, (some 45), (some (32, false)), .p (.notb (.tmp 44)), []⟩, ⟨38, (some 46), none, .p (.pick (.tmp 32) (.const (.bool true)) (.tmp 45)), []⟩] 39 [0, 46]) (.cond (.tmp 46) (.seq (.ops [⟨0, (some 47), none, .p (.mv (.tmp 0)), []⟩, ⟨1, (some 48), none, .e (.call false 71 [.tmp 47, .const (.int .i64 9)]), []⟩] 2 []) (.seq (.ops [⟨0, (some 2), none, .p (.mv (.const (.str []))), []⟩] 1 [2]) (.ret))) (.skip))) (.seq (.ops [⟨0, (some 49), none, .p (.mv (.tmp 0)), []⟩, ⟨1, (some 50), none, .p (.nilchk (.tmp 49)), []⟩, ⟨2, (some 51), none, .p (.fld 1 (.tmp 50)), []⟩, ⟨3, (some 52), none, .r (.load false 1 (.tmp 51)), []⟩, ⟨4, (some 53), none, .p (.bin .add (.tmp 52) (.const (.int .i64 1))), []⟩, ⟨5, (some 54), none, .p (.nilchk (.tmp 49)), []⟩, ⟨6, (some 55), none, .p (.fld 1 (.tmp 54)), []⟩, ⟨7, none, none, .e (.store (.tmp 55) (.tmp 53) 1), []⟩] 8 [0]) (.seq (.ops [⟨0, (some 56), none, .p (.mv (.tmp 0)), []⟩, ⟨1, (some 57), none, .p (.nilchk (.tmp 56)), []⟩, ⟨2, (some 58), none, .p (.fld 0 (.tmp 57)), []⟩, ⟨4, (some 60), none, .p (.mv (.tmp 0)), []⟩, ⟨5, (some 61), none, .p (.nilchk (.tmp 60)), []⟩, ⟨6, (some 62), none, .p (.fld 1 (.tmp 61)), []⟩, ⟨3, (some 59), none, .r (.load false 1 (.tmp 58)), []⟩, ⟨7, (some 63), none, .r (.load false 1 (.tmp 62)), []⟩, ⟨8, (some 64), none, .p (.bin .sub (.tmp 63) (.const (.int .i64 1))), []⟩, ⟨9, (some 65), none, .p (.idx 3 (.tmp 59) (.tmp 64)), []⟩, ⟨10, (some 66), none, .p (.fld 2 (.tmp 65)), []⟩, ⟨11, (some 67), none, .r (.load false 1 (.tmp 66)), []⟩, ⟨12, (some 2), none, .p (.mv (.tmp 67)), []⟩] 13 [2]) (.ret))))) }
def N72 : Notes := { note := fun | 3 => some ⟨[0, 1, 2, 4, 5, 6, 3, 7, 8, 9, 10, 11, 12, 13, 15, 16, 17, 14, 18, 19, 20, 21, 22, 23, 24, 25, 26, 27, 29, 30, 31, 28, 32, 33, 34, 35, 36, 37, 38], [0, 1, 3, 7, 0, 16, 48, 112, 240, 511, 1023, 2047, 4095, 8191, 16383, 2047, 34815, 100351, 231423, 524287, 1048575, 2097151, 4194303, 8388607, 16777215, 33554431, 67108863, 134217727, 268435455, 33554431, 570425343, 1644167167, 3791650815, 8589934591, 17179869183, 34359738367, 68719476735, 137438953471, 274877906943], [[], [], [], [], [], [], [], [], [], [], [], [], [], [], [], [], [], [], [], [], [], [], [], [], [], [], [], [], [], [], [], [], [], [], [], [], [], [], []]⟩ | 7 => some ⟨[0, 1, 2, 4, 5, 6, 3, 7, 8, 9, 10, 11, 12], [0, 1, 3, 7, 0, 16, 48, 112, 240, 511, 1023, 2047, 4095], [[], [], [], [], [], [], [], [], [], [], [], [], []]⟩ | _ => none, keep := fun | 7 => [2] | 6 => [0] | 5 => [2] | 4 => [] | 3 => [0, 46] | 2 => [2] | 1 => [0, 7] | 0 => [0] | _ => [] }
theorem A72_ok : cFn Try.prog qf N72 Try.f72 = some A72 := by kernel_rfl
inductive W72 where
  | mk (x0 x2 x7 x46 : AV)
abbrev V72 := AV
def mo72 : W72 → Fr := fun ⟨x0, x2, x7, x46⟩ => [x0, .top, x2, .top, .top, .top, .top, x7, .top, .top, .top, .top, .top, .top, .top, .top, .top, .top, .top, .top, .top, .top, .top, .top, .top, .top, .top, .top, .top, .top, .top, .top, .top, .top, .top, .top, .top, .top, .top, .top, .top, .top, .top, .top, .top, .top, x46, .top, .top, .top, .top, .top, .top, .top, .top, .top, .top, .top, .top, .top, .top, .top, .top, .top, .top, .top, .top, .top]
def mi72 : V72 → Fr := fun x0 => [x0, .tup [], .tup [], .tup [], .tup [], .tup [], .tup [], .tup [], .tup [], .tup [], .tup [], .tup [], .tup [], .tup [], .tup [], .tup [], .tup [], .tup [], .tup [], .tup [], .tup [], .tup [], .tup [], .tup [], .tup [], .tup [], .tup [], .tup [], .tup [], .tup [], .tup [], .tup [], .tup [], .tup [], .tup [], .tup [], .tup [], .tup [], .tup [], .tup [], .tup [], .tup [], .tup [], .tup [], .tup [], .tup [], .tup [], .tup [], .tup [], .tup [], .tup [], .tup [], .tup [], .tup [], .tup [], .tup [], .tup [], .tup [], .tup [], .tup [], .tup [], .tup [], .tup [], .tup [], .tup [], .tup [], .tup [], .tup []]
noncomputable def S72r0 {R : Type} (call : Nat → List AV → M AV) : V72 → Nat → AS → (W72 → AS → Option R) → Option R := fun x0 base s k =>
  k (.mk x0 .top .top .top) s
noncomputable def S72r1 {R : Type} (call : Nat → List AV → M AV) : W72 → Nat → AS → (W72 → AS → Option R) → Option R := @W72.rec (fun _ => Nat → AS → (W72 → AS → Option R) → Option R) fun x0 x2 x7 x46 base s k =>
  bndP (nilchkA x0) fun y0 =>
  bndP (fldA 3 y0) fun y1 =>
  bndP (loadQ false 1 y1 s.h) fun y2 =>
  bndP (binQ .neq y2 ((.int .i64 0) : AV)) fun y3 =>
  k (.mk x0 .top y3 .top) s
noncomputable def S72r2 {R : Type} (call : Nat → List AV → M AV) : W72 → Nat → AS → (W72 → AS → Option R) → Option R := @W72.rec (fun _ => Nat → AS → (W72 → AS → Option R) → Option R) fun x0 x2 x7 x46 base s k =>
  k (.mk .top ((.str []) : AV) .top .top) s
noncomputable def S72r3 {R : Type} (call : Nat → List AV → M AV) : W72 → Nat → AS → (W72 → AS → Option R) → Option R := @W72.rec (fun _ => Nat → AS → (W72 → AS → Option R) → Option R) fun x0 x2 x7 x46 base s k =>
  bndP (nilchkA x0) fun y0 =>
  bndP (fldA 1 y0) fun y1 =>
  bndP (nilchkA x0) fun y2 =>
  bndP (fldA 0 y2) fun y3 =>
  bndP (loadQ false 1 y1 s.h) fun y4 =>
  bndP (loadQ false 1 y3 s.h) fun y5 =>
  bndP (lenAQ false y5) fun y6 =>
  bndP (binQ .geq y4 y6) fun y7 =>
  bndO (gd (wantG y7 false) (fun s => (pureO (some x0) s)) s) fun y8 s =>
  bndO (gd (wantG y7 false) (fun s => (pureO (nilchkA y8) s)) s) fun y9 s =>
  bndO (gd (wantG y7 false) (fun s => (pureO (fldA 0 y9) s)) s) fun y10 s =>
  bndO (gd (wantG y7 false) (fun s => (pureO (some x0) s)) s) fun y11 s =>
  bndO (gd (wantG y7 false) (fun s => (pureO (nilchkA y11) s)) s) fun y12 s =>
  bndO (gd (wantG y7 false) (fun s => (pureO (fldA 1 y12) s)) s) fun y13 s =>
  bndO (gd (wantG y7 false) (fun s => (pureO (loadQ false 1 y10 s.h) s)) s) fun y14 s =>
  bndO (gd (wantG y7 false) (fun s => (pureO (loadQ false 1 y13 s.h) s)) s) fun y15 s =>
  bndO (gd (wantG y7 false) (fun s => (pureO (idxQ 3 y14 y15) s)) s) fun y16 s =>
  bndO (gd (wantG y7 false) (fun s => (pureO (fldA 0 y16) s)) s) fun y17 s =>
  bndO (gd (wantG y7 false) (fun s => (pureO (loadQ false 1 y17 s.h) s)) s) fun y18 s =>
  bndO (gd (wantG y7 false) (fun s => (pureO (binQ .neq y18 ((.int .i64 1) : AV)) s)) s) fun y19 s =>
  bndP (pickA y7 ((.bool true) : AV) y19) fun y20 =>
  bndO (gd (wantG y20 false) (fun s => (pureO (some x0) s)) s) fun y21 s =>
  bndO (gd (wantG y20 false) (fun s => (pureO (nilchkA y21) s)) s) fun y22 s =>
  bndO (gd (wantG y20 false) (fun s => (pureO (fldA 0 y22) s)) s) fun y23 s =>
  bndO (gd (wantG y20 false) (fun s => (pureO (some x0) s)) s) fun y24 s =>
  bndO (gd (wantG y20 false) (fun s => (pureO (nilchkA y24) s)) s) fun y25 s =>
  bndO (gd (wantG y20 false) (fun s => (pureO (fldA 1 y25) s)) s) fun y26 s =>
  bndO (gd (wantG y20 false) (fun s => (pureO (loadQ false 1 y23 s.h) s)) s) fun y27 s =>
  bndO (gd (wantG y20 false) (fun s => (pureO (loadQ false 1 y26 s.h) s)) s) fun y28 s =>
  bndO (gd (wantG y20 false) (fun s => (pureO (idxQ 3 y27 y28) s)) s) fun y29 s =>
  bndO (gd (wantG y20 false) (fun s => (pureO (fldA 2 y29) s)) s) fun y30 s =>
  bndO (gd (wantG y20 false) (fun s => (pureO (loadQ false 1 y30 s.h) s)) s) fun y31 s =>
  bndO (gd (wantG y20 false) (fun s => (quietQ call 100 [y31] s)) s) fun y32 s =>
  bndO (gd (wantG y20 false) (fun s => (pureO (notA y32) s)) s) fun y33 s =>
  bndP (pickA y20 ((.bool true) : AV) y33) fun y34 =>
  k (.mk x0 .top .top y34) s
noncomputable def S72r4 {R : Type} (call : Nat → List AV → M AV) : W72 → Nat → AS → (W72 → AS → Option R) → Option R := @W72.rec (fun _ => Nat → AS → (W72 → AS → Option R) → Option R) fun x0 x2 x7 x46 base s k =>
  bndO (call 71 [x0, ((.int .i64 9) : AV)] s) fun y0 s =>
  k (.mk .top .top .top .top) s
noncomputable def S72r5 {R : Type} (call : Nat → List AV → M AV) : W72 → Nat → AS → (W72 → AS → Option R) → Option R := @W72.rec (fun _ => Nat → AS → (W72 → AS → Option R) → Option R) fun x0 x2 x7 x46 base s k =>
  k (.mk .top ((.str []) : AV) .top .top) s
noncomputable def S72r6 {R : Type} (call : Nat → List AV → M AV) : W72 → Nat → AS → (W72 → AS → Option R) → Option R := @W72.rec (fun _ => Nat → AS → (W72 → AS → Option R) → Option R) fun x0 x2 x7 x46 base s k =>
  bndP (nilchkA x0) fun y0 =>
  bndP (fldA 1 y0) fun y1 =>
  bndP (loadQ false 1 y1 s.h) fun y2 =>
  bndP (binQ .add y2 ((.int .i64 1) : AV)) fun y3 =>
  bndP (nilchkA x0) fun y4 =>
  bndP (fldA 1 y4) fun y5 =>
  bndO (storeQ y5 y3 1 s) fun _ s =>
  k (.mk x0 .top .top .top) s
noncomputable def S72r7 {R : Type} (call : Nat → List AV → M AV) : W72 → Nat → AS → (W72 → AS → Option R) → Option R := @W72.rec (fun _ => Nat → AS → (W72 → AS → Option R) → Option R) fun x0 x2 x7 x46 base s k =>
  bndP (nilchkA x0) fun y0 =>
  bndP (fldA 0 y0) fun y1 =>
  bndP (nilchkA x0) fun y2 =>
  bndP (fldA 1 y2) fun y3 =>
  bndP (loadQ false 1 y1 s.h) fun y4 =>
  bndP (loadQ false 1 y3 s.h) fun y5 =>
  bndP (binQ .sub y5 ((.int .i64 1) : AV)) fun y6 =>
  bndP (idxQ 3 y4 y6) fun y7 =>
  bndP (fldA 2 y7) fun y8 =>
  bndP (loadQ false 1 y8 s.h) fun y9 =>
  k (.mk .top y9 .top .top) s
noncomputable def S72c {R : Type} (call : Nat → List AV → M AV) (fuel : Nat) : SC V72 W72 R := sSeq (sReg 1 (S72r0 call)) (sSeq (sSeq (sReg 5 (S72r1 call)) (sCond (@W72.rec (fun _ => AV) fun _ _ x7 _ => x7) (sSeq (sReg 1 (S72r2 call)) (sRet)) (sSkip))) (sSeq (sSeq (sReg 39 (S72r3 call)) (sCond (@W72.rec (fun _ => AV) fun _ _ _ x46 => x46) (sSeq (sReg 2 (S72r4 call)) (sSeq (sReg 1 (S72r5 call)) (sRet))) (sSkip))) (sSeq (sReg 8 (S72r6 call)) (sSeq (sReg 13 (S72r7 call)) (sRet)))))
noncomputable def S72e : Ex → W72 → AS → Option (AV × AS) := fun e w s => (@W72.rec (fun _ => Option (AV × AS)) fun _ x2 _ _ => @Ex.rec (fun _ => Option (AV × AS)) (some (x2, s)) (fun _ => none) (some (x2, s)) e) w
noncomputable def S72 (call : Nat → List AV → M AV) (fuel : Nat) (args : List AV) (s : AS) : Option (AV × AS) := match args with
  | [x0] => S72c call fuel x0 s S72e
  | _ => none
theorem S72_sim (call : Nat → List AV → M AV) (fuel : Nat) : Sim (R := AV × AS) call fuel mi72 mo72 A72.code (S72c call fuel) := by
  refine sim_seq (sim_reg (fun x0 _ _ _ => by kernel_rfl)) (sim_seq (sim_seq (sim_reg (fun ⟨x0, x2, x7, x46⟩ _ _ _ => by kernel_rfl)) (sim_cond (fun ⟨x0, x2, x7, x46⟩ => by kernel_rfl) (sim_seq (sim_reg (fun ⟨x0, x2, x7, x46⟩ _ _ _ => by kernel_rfl)) (sim_ret)) (sim_skip))) (sim_seq (sim_seq (sim_reg (fun ⟨x0, x2, x7, x46⟩ _ _ _ => by kernel_rfl)) (sim_cond (fun ⟨x0, x2, x7, x46⟩ => by kernel_rfl) (sim_seq (sim_reg (fun ⟨x0, x2, x7, x46⟩ _ _ _ => by kernel_rfl)) (sim_seq (sim_reg (fun ⟨x0, x2, x7, x46⟩ _ _ _ => by kernel_rfl)) (sim_ret))) (sim_skip))) (sim_seq (sim_reg (fun ⟨x0, x2, x7, x46⟩ _ _ _ => by kernel_rfl)) (sim_seq (sim_reg (fun ⟨x0, x2, x7, x46⟩ _ _ _ => by kernel_rfl)) (sim_ret)))))
theorem S72_ok (call : Nat → List AV → M AV) (fuel : Nat) (args : List AV) (s : AS) : afn call fuel A72 args s = S72 call fuel args s := by
  rcases args with _ | ⟨x0, _ | ⟨x1, r⟩⟩
  · kernel_rfl
  · exact (afn_sim (S72_sim call fuel) (v := x0) (e2 := S72e) (by kernel_rfl) (by kernel_rfl) (fun e w s => by cases w; cases e <;> kernel_rfl)).trans (by kernel_rfl)
  · kernel_rfl
def A73 : AFn := { nargs := 2, ntmps := 44, res := [.tmp 4], code := .seq (.ops [⟨0, (some 4), none, .p (.mv (.const (.bool false))), []⟩] 1 [0, 1]) (.seq (.ops [⟨0, (some 5), none, .p (.mv (.tmp 0)), []⟩, ⟨1, (some 6), none, .p (.nilchk (.tmp 5)), []⟩, ⟨2, (some 7), none, .p (.fld 1 (.tmp 6)), []⟩, ⟨4, (some 9), none, .p (.mv (.tmp 0)), []⟩, ⟨5, (some 10), none, .p (.nilchk (.tmp 9)), []⟩, ⟨6, (some 11), none, .p (.fld 0 (.tmp 10)), []⟩, ⟨3, (some 8), none, .r (.load false 1 (.tmp 7)), []⟩, ⟨7, (some 12), none, .r (.load false 1 (.tmp 11)), []⟩, ⟨8, (some 13), none, .p (.lenS false (.tmp 12)), []⟩, ⟨9, (some 14), none, .p (.bin .lss (.tmp 8) (.tmp 13)), []⟩, ⟨10, (some 15), none, .p (.mv (.tmp 14)), []⟩, ⟨11, (some 16), (some (15, true)), .p (.mv (.tmp 0)), []⟩, ⟨12, (some 17), (some (15, true)), .p (.nilchk (.tmp 16)), []⟩, ⟨13, (some 18), (some (15, true)), .p (.fld 0 (.tmp 17)), []⟩, ⟨15, (some 20), (some (15, true)), .p (.mv (.tmp 0)), []⟩, ⟨16, (some 21), (some (15, true)), .p (.nilchk (.tmp 20)), []⟩, ⟨17, (some 22), (some (15, true)), .p (.fld 1 (.tmp 21)), []⟩, ⟨14, (some 19), (some (15, true)), .r (.load false 1 (.tmp 18)), []⟩, ⟨18, (some 23), (some (15, true)), .r (.load false 1 (.tmp 22)), []⟩, ⟨19, (some 24), (some (15, true)), .p (.idx 3 (.tmp 19) (.tmp 23)), []⟩, ⟨20, (some 25), (some (15, true)), .p (.fld 0 (.tmp 24)), []⟩, ⟨21, (some 26), (some (15, true)), .r (.load false 1 (.tmp 25)), []⟩, ⟨22, (some 27), (some (15, true)), .p (.bin .eql (.tmp 26) (.const (.int .i64 2))), []⟩, ⟨23, (some 28), none, .p (.pick (.tmp 15) (.tmp 27) (.const (.bool false))), []⟩, ⟨24, (some 29), none, .p (.mv (.tmp 28)), []⟩, ⟨25, (some 30), (some (29, true)), .p (.mv (.tmp 0)), []⟩, ⟨26, (some 31), (some (29, true)), .p (.nilchk (.tmp 30)), []⟩, ⟨27, (some 32), (some (29, true)), .p (.fld 0 (.tmp 31)), []⟩, ⟨29, (some 34), (some (29, true)), .p (.mv (.tmp 0)), []⟩, ⟨30, (some 35), (some (29, true)), .p (.nilchk (.tmp 34)), []⟩, ⟨31, (some 36), (some (29, true)), .p (.fld 1 (.tmp 35)), []⟩, ⟨36, (some 41), (some (29, true)), .p (.mv (.tmp 1)), []⟩, ⟨28, (some 33), (some (29, true)), .r (.load false 1 (.tmp 32)), []⟩, ⟨32, (some 37), (some (29, true)), .r (.load false 1 (.tmp 36)), []⟩, ⟨33, (some 38), (some (29, true)), .p (.idx 3 (.tmp 33) (.tmp 37)), []⟩, ⟨34, (some 39), (some (29, true)), .p (.fld 2 (.tmp 38)), []⟩, ⟨35, (some 40), (some (29, true)), .r (.load false 1 (.tmp 39)), []⟩, ⟨37, (some 42), (some (29, true)), .p (.bin .eql (.tmp 40) (.tmp 41)), []⟩, ⟨38, (some 43), none, .p (.pick (.tmp 29) (.tmp 42) (.const (.bool false))), []⟩, ⟨39, (some 4), none, .p (.mv (.tmp 43)), []⟩] 40 [4]) (.ret)) }
def N73 : Notes := { note := fun | 1 => some ⟨[0, 1, 2, 4, 5, 6, 3, 7, 8, 9, 10, 11, 12, 13, 15, 16, 17, 14, 18, 19, 20, 21, 22, 23, 24, 25, 26, 27, 29, 30, 31, 36, 28, 32, 33, 34, 35, 37, 38, 39], [0, 1, 3, 7, 0, 16, 48, 112, 240, 511, 1023, 2047, 4095, 8191, 16383, 2047, 34815, 100351, 231423, 524287, 1048575, 2097151, 4194303, 8388607, 16777215, 33554431, 67108863, 134217727, 268435455, 33554431, 570425343, 1644167167, 3791650815, 8589934591, 17179869183, 34359738367, 33554431, 137438953471, 274877906943, 549755813887], [[], [], [], [], [], [], [], [], [], [], [], [], [], [], [], [], [], [], [], [], [], [], [], [], [], [], [], [], [], [], [], [], [], [], [], [], [], [], [], []]⟩ | _ => none, keep := fun | 1 => [4] | 0 => [0, 1] | _ => [] }
theorem A73_ok : cFn Try.prog qf N73 Try.f73 = some A73 := by kernel_rfl
inductive W73 where
  | mk (x0 x1 x4 : AV)
inductive V73 where
  | mk (x0 x1 : AV)
def mo73 : W73 → Fr := fun ⟨x0, x1, x4⟩ => [x0, x1, .top, .top, x4, .top, .top, .top, .top, .top, .top, .top, .top, .top, .top, .top, .top, .top, .top, .top, .top, .top, .top, .top, .top, .top, .top, .top, .top, .top, .top, .top, .top, .top, .top, .top, .top, .top, .top, .top, .top, .top, .top, .top]
def mi73 : V73 → Fr := fun ⟨x0, x1⟩ => [x0, x1, .tup [], .tup [], .tup [], .tup [], .tup [], .tup [], .tup [], .tup [], .tup [], .tup [], .tup [], .tup [], .tup [], .tup [], .tup [], .tup [], .tup [], .tup [], .tup [], .tup [], .tup [], .tup [], .tup [], .tup [], .tup [], .tup [], .tup [], .tup [], .tup [], .tup [], .tup [], .tup [], .tup [], .tup [], .tup [], .tup [], .tup [], .tup [], .tup [], .tup [], .tup [], .tup []]
noncomputable def S73r0 {R : Type} (call : Nat → List AV → M AV) : V73 → Nat → AS → (W73 → AS → Option R) → Option R := @V73.rec (fun _ => Nat → AS → (W73 → AS → Option R) → Option R) fun x0 x1 base s k =>
  k (.mk x0 x1 .top) s
noncomputable def S73r1 {R : Type} (call : Nat → List AV → M AV) : W73 → Nat → AS → (W73 → AS → Option R) → Option R := @W73.rec (fun _ => Nat → AS → (W73 → AS → Option R) → Option R) fun x0 x1 x4 base s k =>
  bndP (nilchkA x0) fun y0 =>
  bndP (fldA 1 y0) fun y1 =>
  bndP (nilchkA x0) fun y2 =>
  bndP (fldA 0 y2) fun y3 =>
  bndP (loadQ false 1 y1 s.h) fun y4 =>
  bndP (loadQ false 1 y3 s.h) fun y5 =>
  bndP (lenAQ false y5) fun y6 =>
  bndP (binQ .lss y4 y6) fun y7 =>
  bndO (gd (wantG y7 true) (fun s => (pureO (some x0) s)) s) fun y8 s =>
  bndO (gd (wantG y7 true) (fun s => (pureO (nilchkA y8) s)) s) fun y9 s =>
  bndO (gd (wantG y7 true) (fun s => (pureO (fldA 0 y9) s)) s) fun y10 s =>
  bndO (gd (wantG y7 true) (fun s => (pureO (some x0) s)) s) fun y11 s =>
  bndO (gd (wantG y7 true) (fun s => (pureO (nilchkA y11) s)) s) fun y12 s =>
  bndO (gd (wantG y7 true) (fun s => (pureO (fldA 1 y12) s)) s) fun y13 s =>
  bndO (gd (wantG y7 true) (fun s => (pureO (loadQ false 1 y10 s.h) s)) s) fun y14 s =>
  bndO (gd (wantG y7 true) (fun s => (pureO (loadQ false 1 y13 s.h) s)) s) fun y15 s =>
  bndO (gd (wantG y7 true) (fun s => (pureO (idxQ 3 y14 y15) s)) s) fun y16 s =>
  bndO (gd (wantG y7 true) (fun s => (pureO (fldA 0 y16) s)) s) fun y17 s =>
  bndO (gd (wantG y7 true) (fun s => (pureO (loadQ false 1 y17 s.h) s)) s) fun y18 s =>
  bndO (gd (wantG y7 true) (fun s => (pureO (binQ .eql y18 ((.int .i64 2) : AV)) s)) s) fun y19 s =>
  bndP (pickA y7 y19 ((.bool false) : AV)) fun y20 =>
  bndO (gd (wantG y20 true) (fun s => (pureO (some x0) s)) s) fun y21 s =>
  bndO (gd (wantG y20 true) (fun s => (pureO (nilchkA y21) s)) s) fun y22 s =>
  bndO (gd (wantG y20 true) (fun s => (pureO (fldA 0 y22) s)) s) fun y23 s =>
  bndO (gd (wantG y20 true) (fun s => (pureO (some x0) s)) s) fun y24 s =>
  bndO (gd (wantG y20 true) (fun s => (pureO (nilchkA y24) s)) s) fun y25 s =>
  bndO (gd (wantG y20 true) (fun s => (pureO (fldA 1 y25) s)) s) fun y26 s =>
  bndO (gd (wantG y20 true) (fun s => (pureO (some x1) s)) s) fun y27 s =>
  bndO (gd (wantG y20 true) (fun s => (pureO (loadQ false 1 y23 s.h) s)) s) fun y28 s =>
  bndO (gd (wantG y20 true) (fun s => (pureO (loadQ false 1 y26 s.h) s)) s) fun y29 s =>
  bndO (gd (wantG y20 true) (fun s => (pureO (idxQ 3 y28 y29) s)) s) fun y30 s =>
  bndO (gd (wantG y20 true) (fun s => (pureO (fldA 2 y30) s)) s) fun y31 s =>
  bndO (gd (wantG y20 true) (fun s => (pureO (loadQ false 1 y31 s.h) s)) s) fun y32 s =>
  bndO (gd (wantG y20 true) (fun s => (pureO (binQ .eql y32 y27) s)) s) fun y33 s =>
  bndP (pickA y20 y33 ((.bool false) : AV)) fun y34 =>
  k (.mk .top .top y34) s
noncomputable def S73c {R : Type} (call : Nat → List AV → M AV) (fuel : Nat) : SC V73 W73 R := sSeq (sReg 1 (S73r0 call)) (sSeq (sReg 40 (S73r1 call)) (sRet))
noncomputable def S73e : Ex → W73 → AS → Option (AV × AS) := fun e w s => (@W73.rec (fun _ => Option (AV × AS)) fun _ _ x4 => @Ex.rec (fun _ => Option (AV × AS)) (some (x4, s)) (fun _ => none) (some (x4, s)) e) w
noncomputable def S73 (call : Nat → List AV → M AV) (fuel : Nat) (args : List AV) (s : AS) : Option (AV × AS) := match args with
  | [x0, x1] => S73c call fuel (.mk x0 x1) s S73e
  | _ => none
theorem S73_sim (call : Nat → List AV → M AV) (fuel : Nat) : Sim (R := AV × AS) call fuel mi73 mo73 A73.code (S73c call fuel) := by
  refine sim_seq (sim_reg (fun ⟨x0, x1⟩ _ _ _ => by kernel_rfl)) (sim_seq (sim_reg (fun ⟨x0, x1, x4⟩ _ _ _ => by kernel_rfl)) (sim_ret))
theorem S73_ok (call : Nat → List AV → M AV) (fuel : Nat) (args : List AV) (s : AS) : afn call fuel A73 args s = S73 call fuel args s := by
  rcases args with _ | ⟨x0, _ | ⟨x1, _ | ⟨x2, r⟩⟩⟩
  · kernel_rfl
  · kernel_rfl
  · exact (afn_sim (S73_sim call fuel) (v := (.mk x0 x1)) (e2 := S73e) (by kernel_rfl) (by kernel_rfl) (fun e w s => by cases w; cases e <;> kernel_rfl)).trans (by kernel_rfl)
  · kernel_rfl
def A74 : AFn := { nargs := 1, ntmps := 98, res := [.cell 2 true 3], code := .seq (.ops [⟨0, (some 2), none, .l (.alloc [.str [], .nils, .nils]), []⟩] 1 [0, 2]) (.seq (.ops [⟨0, (some 5), none, .p (.mv (.tmp 0)), []⟩, ⟨1, (some 6), none, .e (.call false 72 [.tmp 5]), []⟩, ⟨2, (some 7), none, .p (.build [.str [], .nils, .nils] [(0, 1, .tmp 6)]), []⟩, ⟨3, (some 3), none, .l (.alloc [.str [], .nils, .nils]), []⟩, ⟨4, none, none, .e (.store (.tmp 3) (.tmp 7) 3), []⟩] 5 [0, 2, 3]) (.seq (.seq (.ops [⟨0, (some 8), none, .p (.mv (.tmp 0)), []⟩, ⟨1, (some 9), none, .p (.nilchk (.tmp 8)), []⟩, ⟨2, (some 10), none, .p (.fld 3 (.tmp 9)), []⟩, ⟨3, (some 11), none, .r (.load false 1 (.tmp 10)), []⟩, ⟨4, (some 12), none, .p (.bin .eql (.tmp 11) (.const (.int .i64 0))), []⟩, ⟨5, (some 13), none, .p (.mv (.tmp 12)), []⟩, ⟨6, (some 14), (some (13, true)), .p (.mv (.tmp 0)), []⟩, ⟨7, (some 15), (some (13, true)), .e (.call true 73 [.tmp 14, .const (.str [61])]), []⟩, ⟨8, (some 16), none, .p (.pick (.tmp 13) (.tmp 15) (.const (.bool false))), []⟩] 9 [0, 2, 3, 16]) (.cond (.tmp 16) (.seq (.ops [⟨0, (some 17), none, .p (.mv (.tmp 0)), []⟩, ⟨1, (some 18), none, .p (.nilchk (.tmp 17)), []⟩, ⟨2, (some 19), none, .p (.fld 1 (.tmp 18)), []⟩, ⟨3, (some 20), none, .r (.load false 1 (.tmp 19)), []⟩, ⟨4, (some 21), none, .p (.bin .add (.tmp 20) (.const (.int .i64 1))), []⟩, ⟨5, (some 22), none, .p (.nilchk (.tmp 17)), []⟩, ⟨6, (some 23), none, .p (.fld 1 (.tmp 22)), []⟩, ⟨7, none, none, .e (.store (.tmp 23) (.tmp 21) 1), []⟩] 8 [0, 2, 3]) (.seq (.ops [⟨0, (some 24), none, .p (.mv (.tmp 0)), []⟩, ⟨1, (some 25), none, .p (.nilchk (.tmp 24)), []⟩, ⟨2, (some 26), none, .p (.fld 6 (.tmp 25)), []⟩, ⟨3, none, none, .e (.store (.tmp 26) (.const (.nils)) 1), []⟩] 4 [0, 2, 3]) (.seq (.ops [⟨0, (some 27), none, .p (.mv (.tmp 0)), []⟩, ⟨1, (some 28), none, .e (.call false 101 [.tmp 27]), []⟩] 2 [0, 2, 3]) (.seq (.ops [⟨0, (some 29), none, .p (.mv (.tmp 0)), []⟩, ⟨1, (some 30), none, .p (.nilchk (.tmp 29)), []⟩, ⟨2, (some 31), none, .p (.fld 6 (.tmp 30)), []⟩, ⟨3, (some 32), none, .r (.load false 1 (.tmp 31)), []⟩, ⟨4, (some 33), none, .p (.fld 2 (.tmp 3)), []⟩, ⟨5, none, none, .e (.store (.tmp 33) (.tmp 32) 1), []⟩] 6 [0, 2, 3]) (.seq (.ops [⟨0, (some 34), none, .p (.mv (.tmp 0)), []⟩, ⟨1, (some 35), none, .e (.call false 75 [.tmp 34, .const (.str [59])]), []⟩] 2 [2, 3]) (.seq (.ops [⟨0, (some 36), none, .r (.load true 3 (.tmp 3)), []⟩, ⟨1, none, none, .e (.store (.tmp 2) (.tmp 36) 3), []⟩] 2 [2]) (.ret))))))) (.skip))) (.seq (.ops [⟨0, (some 37), none, .p (.mv (.tmp 0)), []⟩, ⟨1, (some 38), none, .e (.call false 75 [.tmp 37, .const (.str [58])]), []⟩] 2 [0, 2, 3]) (.seq (.block 0 (.loop (.seq (.seq (.ops [⟨0, (some 39), none, .p (.mv (.tmp 0)), []⟩, ⟨1, (some 40), none, .p (.nilchk (.tmp 39)), []⟩, ⟨2, (some 41), none, .p (.fld 3 (.tmp 40)), []⟩, ⟨3, (some 42), none, .r (.load false 1 (.tmp 41)), []⟩, ⟨4, (some 43), none, .p (.bin .eql (.tmp 42) (.const (.int .i64 0))), []⟩] 5 [0, 2, 3, 43]) (.cond (.tmp 43) (.skip) (.exit 0))) (.block 1 (.seq (.seq (.ops [⟨0, (some 44), none, .p (.fld 1 (.tmp 3)), []⟩, ⟨1, (some 45), none, .r (.load false 1 (.tmp 44)), []⟩, ⟨2, (some 46), none, .p (.lenS false (.tmp 45)), []⟩, ⟨3, (some 47), none, .p (.bin .eql (.tmp 46) (.const (.int .i64 50))), []⟩] 4 [0, 2, 3, 47]) (.cond (.tmp 47) (.ops [⟨0, (some 48), none, .p (.mv (.tmp 0)), []⟩, ⟨1, (some 49), none, .e (.call false 71 [.tmp 48, .const (.int .i64 8)]), []⟩] 2 [0, 2, 3]) (.skip))) (.seq (.ops [⟨0, (some 50), none, .p (.mv (.tmp 0)), []⟩, ⟨1, (some 51), none, .e (.call false 72 [.tmp 50]), []⟩, ⟨2, (some 52), none, .p (.build [.str [], .str [], .str []] [(0, 1, .tmp 51)]), []⟩, ⟨3, (some 4), none, .l (.alloc [.str [], .str [], .str []]), []⟩, ⟨4, none, none, .e (.store (.tmp 4) (.tmp 52) 3), []⟩] 5 [0, 2, 3, 4]) (.seq (.seq (.ops [⟨0, (some 53), none, .p (.mv (.tmp 0)), []⟩, ⟨1, (some 54), none, .p (.nilchk (.tmp 53)), []⟩, ⟨2, (some 55), none, .p (.fld 3 (.tmp 54)), []⟩, ⟨3, (some 56), none, .r (.load false 1 (.tmp 55)), []⟩, ⟨4, (some 57), none, .p (.bin .eql (.tmp 56) (.const (.int .i64 0))), []⟩, ⟨5, (some 58), none, .p (.mv (.tmp 57)), []⟩, ⟨6, (some 59), (some (58, true)), .p (.mv (.tmp 0)), []⟩, ⟨7, (some 60), (some (58, true)), .e (.call true 73 [.tmp 59, .const (.str [35])]), []⟩, ⟨8, (some 61), none, .p (.pick (.tmp 58) (.tmp 60) (.const (.bool false))), []⟩] 9 [0, 2, 3, 4, 61]) (.cond (.tmp 61) (.seq (.ops [⟨0, (some 62), none, .p (.mv (.tmp 0)), []⟩, ⟨1, (some 63), none, .p (.nilchk (.tmp 62)), []⟩, ⟨2, (some 64), none, .p (.fld 1 (.tmp 63)), []⟩, ⟨3, (some 65), none, .r (.load false 1 (.tmp 64)), []⟩, ⟨4, (some 66), none, .p (.bin .add (.tmp 65) (.const (.int .i64 1))), []⟩, ⟨5, (some 67), none, .p (.nilchk (.tmp 62)), []⟩, ⟨6, (some 68), none, .p (.fld 1 (.tmp 67)), []⟩, ⟨7, none, none, .e (.store (.tmp 68) (.tmp 66) 1), []⟩] 8 [0, 2, 3, 4]) (.ops [⟨0, (some 69), none, .p (.mv (.tmp 0)), []⟩, ⟨1, (some 70), none, .e (.call false 72 [.tmp 69]), []⟩, ⟨2, (some 71), none, .p (.fld 2 (.tmp 4)), []⟩, ⟨3, none, none, .e (.store (.tmp 71) (.tmp 70) 1), []⟩] 4 [0, 2, 3, 4])) (.skip))) (.seq (.ops [⟨0, (some 72), none, .p (.fld 1 (.tmp 3)), []⟩, ⟨1, (some 73), none, .r (.load false 1 (.tmp 72)), []⟩, ⟨2, (some 74), none, .r (.load true 3 (.tmp 4)), []⟩, ⟨3, (some 75), none, .k { z := [.str [], .str [], .str []], len := 1, parts := [(0, .tmp 74)] }, []⟩, ⟨4, (some 76), none, .e (.append 3 48 (.tmp 73) (.tmp 75)), []⟩, ⟨5, (some 77), none, .p (.fld 1 (.tmp 3)), []⟩, ⟨6, none, none, .e (.store (.tmp 77) (.tmp 76) 1), []⟩] 7 [0, 2, 3]) (.seq (.seq (.ops [⟨0, (some 78), none, .p (.mv (.tmp 0)), []⟩, ⟨1, (some 79), none, .p (.nilchk (.tmp 78)), []⟩, ⟨2, (some 80), none, .p (.fld 3 (.tmp 79)), []⟩, ⟨3, (some 81), none, .r (.load false 1 (.tmp 80)), []⟩, ⟨4, (some 82), none, .p (.bin .eql (.tmp 81) (.const (.int .i64 0))), []⟩, ⟨5, (some 83), none, .p (.mv (.tmp 82)), []⟩, ⟨6, (some 84), (some (83, true)), .p (.mv (.tmp 0)), []⟩, ⟨7, (some 85), (some (83, true)), .e (.call true 73 [.tmp 84, .const (.str [124])]), []⟩, ⟨8, (some 86), none, .p (.pick (.tmp 83) (.tmp 85) (.const (.bool false))), []⟩] 9 [0, 2, 3, 86]) (.cond (.tmp 86) (.seq (.ops [⟨0, (some 87), none, .p (.mv (.tmp 0)), []⟩, ⟨1, (some 88), none, .p (.nilchk (.tmp 87)), []⟩, ⟨2, (some 89), none, .p (.fld 1 (.tmp 88)), []⟩, ⟨3, (some 90), none, .r (.load false 1 (.tmp 89)), []⟩, ⟨4, (some 91), none, .p (.bin .add (.tmp 90) (.const (.int .i64 1))), []⟩, ⟨5, (some 92), none, .p (.nilchk (.tmp 87)), []⟩, ⟨6, (some 93), none, .p (.fld 1 (.tmp 92)), []⟩, ⟨7, none, none, .e (.store (.tmp 93) (.tmp 91) 1), []⟩] 8 [0, 2, 3]) (.exit 1)) (.skip))) (.seq (.ops [⟨0, (some 94), none, .p (.mv (.tmp 0)), []⟩, ⟨1, (some 95), none, .e (.call false 75 [.tmp 94, .const (.str [59])]), []⟩] 2 [2, 3]) (.seq (.ops [⟨0, (some 96), none, .r (.load true 3 (.tmp 3)), []⟩, ⟨1, none, none, .e (.store (.tmp 2) (.tmp 96) 3), []⟩] 2 [2]) (.ret)))))))))))) (.seq (.ops [⟨0, (some 97), none, .r (.load true 3 (.tmp 3)), []⟩, ⟨1, none, none, .e (.store (.tmp 2) (.tmp 97) 3), []⟩] 2 [2]) (.ret)))))) }
def N74 : Notes := { note := fun _ => none, keep := fun | 22 => [2] | 21 => [2] | 20 => [2, 3] | 19 => [0, 2, 3] | 18 => [0, 2, 3, 86] | 17 => [0, 2, 3] | 16 => [0, 2, 3, 4] | 15 => [0, 2, 3, 4] | 14 => [0, 2, 3, 4, 61] | 13 => [0, 2, 3, 4] | 12 => [0, 2, 3] | 11 => [0, 2, 3, 47] | 10 => [0, 2, 3, 43] | 9 => [0, 2, 3] | 8 => [2] | 7 => [2, 3] | 6 => [0, 2, 3] | 5 => [0, 2, 3] | 4 => [0, 2, 3] | 3 => [0, 2, 3] | 2 => [0, 2, 3, 16] | 1 => [0, 2, 3] | 0 => [0, 2] | _ => [] }
theorem A74_ok : cFn Try.prog qf N74 Try.f74 = some A74 := by kernel_rfl
inductive W74 where
  | mk (x0 x2 x3 x4 x16 x43 x47 x61 x86 : AV)
abbrev V74 := AV
def mo74 : W74 → Fr := fun ⟨x0, x2, x3, x4, x16, x43, x47, x61, x86⟩ => [x0, .top, x2, x3, x4, .top, .top, .top, .top, .top, .top, .top, .top, .top, .top, .top, x16, .top, .top, .top, .top, .top, .top, .top, .top, .top, .top, .top, .top, .top, .top, .top, .top, .top, .top, .top, .top, .top, .top, .top, .top, .top, .top, x43, .top, .top, .top, x47, .top, .top, .top, .top, .top, .top, .top, .top, .top, .top, .top, .top, .top, x61, .top, .top, .top, .top, .top, .top, .top, .top, .top, .top, .top, .top, .top, .top, .top, .top, .top, .top, .top, .top, .top, .top, .top, .top, x86, .top, .top, .top, .top, .top, .top, .top, .top, .top, .top, .top]
def mi74 : V74 → Fr := fun x0 => [x0, .tup [], .tup [], .tup [], .tup [], .tup [], .tup [], .tup [], .tup [], .tup [], .tup [], .tup [], .tup [], .tup [], .tup [], .tup [], .tup [], .tup [], .tup [], .tup [], .tup [], .tup [], .tup [], .tup [], .tup [], .tup [], .tup [], .tup [], .tup [], .tup [], .tup [], .tup [], .tup [], .tup [], .tup [], .tup [], .tup [], .tup [], .tup [], .tup [], .tup [], .tup [], .tup [], .tup [], .tup [], .tup [], .tup [], .tup [], .tup [], .tup [], .tup [], .tup [], .tup [], .tup [], .tup [], .tup [], .tup [], .tup [], .tup [], .tup [], .tup [], .tup [], .tup [], .tup [], .tup [], .tup [], .tup [], .tup [], .tup [], .tup [], .tup [], .tup [], .tup [], .tup [], .tup [], .tup [], .tup [], .tup [], .tup [], .tup [], .tup [], .tup [], .tup [], .tup [], .tup [], .tup [], .tup [], .tup [], .tup [], .tup [], .tup [], .tup [], .tup [], .tup [], .tup [], .tup [], .tup [], .tup []]
noncomputable def S74r0 {R : Type} (call : Nat → List AV → M AV) : V74 → Nat → AS → (W74 → AS → Option R) → Option R := fun x0 base s k =>
  bndO (newQ (base + 0) (allocB [(.str []), .nils, .nils] (base + 0)) s) fun y0 s =>
  k (.mk x0 y0 .top .top .top .top .top .top .top) s
noncomputable def S74r1 {R : Type} (call : Nat → List AV → M AV) : W74 → Nat → AS → (W74 → AS → Option R) → Option R := @W74.rec (fun _ => Nat → AS → (W74 → AS → Option R) → Option R) fun x0 x2 x3 x4 x16 x43 x47 x61 x86 base s k =>
  bndO (call 72 [x0] s) fun y0 s =>
  bndP (buildA [(.str []), .nils, .nils] [(0, 1, y0)]) fun y1 =>
  bndO (newQ (base + 3) (allocB [(.str []), .nils, .nils] (base + 3)) s) fun y2 s =>
  bndO (storeQ y2 y1 3 s) fun _ s =>
  k (.mk x0 x2 y2 .top .top .top .top .top .top) s
noncomputable def S74r2 {R : Type} (call : Nat → List AV → M AV) : W74 → Nat → AS → (W74 → AS → Option R) → Option R := @W74.rec (fun _ => Nat → AS → (W74 → AS → Option R) → Option R) fun x0 x2 x3 x4 x16 x43 x47 x61 x86 base s k =>
  bndP (nilchkA x0) fun y0 =>
  bndP (fldA 3 y0) fun y1 =>
  bndP (loadQ false 1 y1 s.h) fun y2 =>
  bndP (binQ .eql y2 ((.int .i64 0) : AV)) fun y3 =>
  bndO (gd (wantG y3 true) (fun s => (pureO (some x0) s)) s) fun y4 s =>
  bndO (gd (wantG y3 true) (fun s => (quietQ call 73 [y4, ((.str [61]) : AV)] s)) s) fun y5 s =>
  bndP (pickA y3 y5 ((.bool false) : AV)) fun y6 =>
  k (.mk x0 x2 x3 .top y6 .top .top .top .top) s
noncomputable def S74r3 {R : Type} (call : Nat → List AV → M AV) : W74 → Nat → AS → (W74 → AS → Option R) → Option R := @W74.rec (fun _ => Nat → AS → (W74 → AS → Option R) → Option R) fun x0 x2 x3 x4 x16 x43 x47 x61 x86 base s k =>
  bndP (nilchkA x0) fun y0 =>
  bndP (fldA 1 y0) fun y1 =>
  bndP (loadQ false 1 y1 s.h) fun y2 =>
  bndP (binQ .add y2 ((.int .i64 1) : AV)) fun y3 =>
  bndP (nilchkA x0) fun y4 =>
  bndP (fldA 1 y4) fun y5 =>
  bndO (storeQ y5 y3 1 s) fun _ s =>
  k (.mk x0 x2 x3 .top .top .top .top .top .top) s
noncomputable def S74r4 {R : Type} (call : Nat → List AV → M AV) : W74 → Nat → AS → (W74 → AS → Option R) → Option R := @W74.rec (fun _ => Nat → AS → (W74 → AS → Option R) → Option R) fun x0 x2 x3 x4 x16 x43 x47 x61 x86 base s k =>
  bndP (nilchkA x0) fun y0 =>
  bndP (fldA 6 y0) fun y1 =>
  bndO (storeQ y1 (.nils : AV) 1 s) fun _ s =>
  k (.mk x0 x2 x3 .top .top .top .top .top .top) s
noncomputable def S74r5 {R : Type} (call : Nat → List AV → M AV) : W74 → Nat → AS → (W74 → AS → Option R) → Option R := @W74.rec (fun _ => Nat → AS → (W74 → AS → Option R) → Option R) fun x0 x2 x3 x4 x16 x43 x47 x61 x86 base s k =>
  bndO (call 101 [x0] s) fun y0 s =>
  k (.mk x0 x2 x3 .top .top .top .top .top .top) s
noncomputable def S74r6 {R : Type} (call : Nat → List AV → M AV) : W74 → Nat → AS → (W74 → AS → Option R) → Option R := @W74.rec (fun _ => Nat → AS → (W74 → AS → Option R) → Option R) fun x0 x2 x3 x4 x16 x43 x47 x61 x86 base s k =>
  bndP (nilchkA x0) fun y0 =>
  bndP (fldA 6 y0) fun y1 =>
  bndP (loadQ false 1 y1 s.h) fun y2 =>
  bndP (fldA 2 x3) fun y3 =>
  bndO (storeQ y3 y2 1 s) fun _ s =>
  k (.mk x0 x2 x3 .top .top .top .top .top .top) s
noncomputable def S74r7 {R : Type} (call : Nat → List AV → M AV) : W74 → Nat → AS → (W74 → AS → Option R) → Option R := @W74.rec (fun _ => Nat → AS → (W74 → AS → Option R) → Option R) fun x0 x2 x3 x4 x16 x43 x47 x61 x86 base s k =>
  bndO (call 75 [x0, ((.str [59]) : AV)] s) fun y0 s =>
  k (.mk .top x2 x3 .top .top .top .top .top .top) s
noncomputable def S74r8 {R : Type} (call : Nat → List AV → M AV) : W74 → Nat → AS → (W74 → AS → Option R) → Option R := @W74.rec (fun _ => Nat → AS → (W74 → AS → Option R) → Option R) fun x0 x2 x3 x4 x16 x43 x47 x61 x86 base s k =>
  bndP (loadQ true 3 x3 s.h) fun y0 =>
  bndO (storeQ x2 y0 3 s) fun _ s =>
  k (.mk .top x2 .top .top .top .top .top .top .top) s
noncomputable def S74r9 {R : Type} (call : Nat → List AV → M AV) : W74 → Nat → AS → (W74 → AS → Option R) → Option R := @W74.rec (fun _ => Nat → AS → (W74 → AS → Option R) → Option R) fun x0 x2 x3 x4 x16 x43 x47 x61 x86 base s k =>
  bndO (call 75 [x0, ((.str [58]) : AV)] s) fun y0 s =>
  k (.mk x0 x2 x3 .top .top .top .top .top .top) s
noncomputable def S74r10 {R : Type} (call : Nat → List AV → M AV) : W74 → Nat → AS → (W74 → AS → Option R) → Option R := @W74.rec (fun _ => Nat → AS → (W74 → AS → Option R) → Option R) fun x0 x2 x3 x4 x16 x43 x47 x61 x86 base s k =>
  bndP (nilchkA x0) fun y0 =>
  bndP (fldA 3 y0) fun y1 =>
  bndP (loadQ false 1 y1 s.h) fun y2 =>
  bndP (binQ .eql y2 ((.int .i64 0) : AV)) fun y3 =>
  k (.mk x0 x2 x3 .top .top y3 .top .top .top) s
noncomputable def S74r11 {R : Type} (call : Nat → List AV → M AV) : W74 → Nat → AS → (W74 → AS → Option R) → Option R := @W74.rec (fun _ => Nat → AS → (W74 → AS → Option R) → Option R) fun x0 x2 x3 x4 x16 x43 x47 x61 x86 base s k =>
  bndP (fldA 1 x3) fun y0 =>
  bndP (loadQ false 1 y0 s.h) fun y1 =>
  bndP (lenAQ false y1) fun y2 =>
  bndP (binQ .eql y2 ((.int .i64 50) : AV)) fun y3 =>
  k (.mk x0 x2 x3 .top .top .top y3 .top .top) s
noncomputable def S74r12 {R : Type} (call : Nat → List AV → M AV) : W74 → Nat → AS → (W74 → AS → Option R) → Option R := @W74.rec (fun _ => Nat → AS → (W74 → AS → Option R) → Option R) fun x0 x2 x3 x4 x16 x43 x47 x61 x86 base s k =>
  bndO (call 71 [x0, ((.int .i64 8) : AV)] s) fun y0 s =>
  k (.mk x0 x2 x3 .top .top .top .top .top .top) s
noncomputable def S74r13 {R : Type} (call : Nat → List AV → M AV) : W74 → Nat → AS → (W74 → AS → Option R) → Option R := @W74.rec (fun _ => Nat → AS → (W74 → AS → Option R) → Option R) fun x0 x2 x3 x4 x16 x43 x47 x61 x86 base s k =>
  bndO (call 72 [x0] s) fun y0 s =>
  bndP (buildA [(.str []), (.str []), (.str [])] [(0, 1, y0)]) fun y1 =>
  bndO (newQ (base + 3) (allocB [(.str []), (.str []), (.str [])] (base + 3)) s) fun y2 s =>
  bndO (storeQ y2 y1 3 s) fun _ s =>
  k (.mk x0 x2 x3 y2 .top .top .top .top .top) s
noncomputable def S74r14 {R : Type} (call : Nat → List AV → M AV) : W74 → Nat → AS → (W74 → AS → Option R) → Option R := @W74.rec (fun _ => Nat → AS → (W74 → AS → Option R) → Option R) fun x0 x2 x3 x4 x16 x43 x47 x61 x86 base s k =>
  bndP (nilchkA x0) fun y0 =>
  bndP (fldA 3 y0) fun y1 =>
  bndP (loadQ false 1 y1 s.h) fun y2 =>
  bndP (binQ .eql y2 ((.int .i64 0) : AV)) fun y3 =>
  bndO (gd (wantG y3 true) (fun s => (pureO (some x0) s)) s) fun y4 s =>
  bndO (gd (wantG y3 true) (fun s => (quietQ call 73 [y4, ((.str [35]) : AV)] s)) s) fun y5 s =>
  bndP (pickA y3 y5 ((.bool false) : AV)) fun y6 =>
  k (.mk x0 x2 x3 x4 .top .top .top y6 .top) s
noncomputable def S74r15 {R : Type} (call : Nat → List AV → M AV) : W74 → Nat → AS → (W74 → AS → Option R) → Option R := @W74.rec (fun _ => Nat → AS → (W74 → AS → Option R) → Option R) fun x0 x2 x3 x4 x16 x43 x47 x61 x86 base s k =>
  bndP (nilchkA x0) fun y0 =>
  bndP (fldA 1 y0) fun y1 =>
  bndP (loadQ false 1 y1 s.h) fun y2 =>
  bndP (binQ .add y2 ((.int .i64 1) : AV)) fun y3 =>
  bndP (nilchkA x0) fun y4 =>
  bndP (fldA 1 y4) fun y5 =>
  bndO (storeQ y5 y3 1 s) fun _ s =>
  k (.mk x0 x2 x3 x4 .top .top .top .top .top) s
noncomputable def S74r16 {R : Type} (call : Nat → List AV → M AV) : W74 → Nat → AS → (W74 → AS → Option R) → Option R := @W74.rec (fun _ => Nat → AS → (W74 → AS → Option R) → Option R) fun x0 x2 x3 x4 x16 x43 x47 x61 x86 base s k =>
  bndO (call 72 [x0] s) fun y0 s =>
  bndP (fldA 2 x4) fun y1 =>
  bndO (storeQ y1 y0 1 s) fun _ s =>
  k (.mk x0 x2 x3 x4 .top .top .top .top .top) s
noncomputable def S74r17 {R : Type} (call : Nat → List AV → M AV) : W74 → Nat → AS → (W74 → AS → Option R) → Option R := @W74.rec (fun _ => Nat → AS → (W74 → AS → Option R) → Option R) fun x0 x2 x3 x4 x16 x43 x47 x61 x86 base s k =>
  bndP (fldA 1 x3) fun y0 =>
  bndP (loadQ false 1 y0 s.h) fun y1 =>
  bndP (loadQ true 3 x4 s.h) fun y2 =>
  bndP (rowsA [(.str []), (.str []), (.str [])] 1 [(0, y2)]) fun y3 =>
  bndO (appQ (base + 4) 3 48 y1 y3 s) fun y4 s =>
  bndP (fldA 1 x3) fun y5 =>
  bndO (storeQ y5 y4 1 s) fun _ s =>
  k (.mk x0 x2 x3 .top .top .top .top .top .top) s
noncomputable def S74r18 {R : Type} (call : Nat → List AV → M AV) : W74 → Nat → AS → (W74 → AS → Option R) → Option R := @W74.rec (fun _ => Nat → AS → (W74 → AS → Option R) → Option R) fun x0 x2 x3 x4 x16 x43 x47 x61 x86 base s k =>
  bndP (nilchkA x0) fun y0 =>
  bndP (fldA 3 y0) fun y1 =>
  bndP (loadQ false 1 y1 s.h) fun y2 =>
  bndP (binQ .eql y2 ((.int .i64 0) : AV)) fun y3 =>
  bndO (gd (wantG y3 true) (fun s => (pureO (some x0) s)) s) fun y4 s =>
  bndO (gd (wantG y3 true) (fun s => (quietQ call 73 [y4, ((.str [124]) : AV)] s)) s) fun y5 s =>
  bndP (pickA y3 y5 ((.bool false) : AV)) fun y6 =>
  k (.mk x0 x2 x3 .top .top .top .top .top y6) s
noncomputable def S74r19 {R : Type} (call : Nat → List AV → M AV) : W74 → Nat → AS → (W74 → AS → Option R) → Option R := @W74.rec (fun _ => Nat → AS → (W74 → AS → Option R) → Option R) fun x0 x2 x3 x4 x16 x43 x47 x61 x86 base s k =>
  bndP (nilchkA x0) fun y0 =>
  bndP (fldA 1 y0) fun y1 =>
  bndP (loadQ false 1 y1 s.h) fun y2 =>
  bndP (binQ .add y2 ((.int .i64 1) : AV)) fun y3 =>
  bndP (nilchkA x0) fun y4 =>
  bndP (fldA 1 y4) fun y5 =>
  bndO (storeQ y5 y3 1 s) fun _ s =>
  k (.mk x0 x2 x3 .top .top .top .top .top .top) s
noncomputable def S74r20 {R : Type} (call : Nat → List AV → M AV) : W74 → Nat → AS → (W74 → AS → Option R) → Option R := @W74.rec (fun _ => Nat → AS → (W74 → AS → Option R) → Option R) fun x0 x2 x3 x4 x16 x43 x47 x61 x86 base s k =>
  bndO (call 75 [x0, ((.str [59]) : AV)] s) fun y0 s =>
  k (.mk .top x2 x3 .top .top .top .top .top .top) s
noncomputable def S74r21 {R : Type} (call : Nat → List AV → M AV) : W74 → Nat → AS → (W74 → AS → Option R) → Option R := @W74.rec (fun _ => Nat → AS → (W74 → AS → Option R) → Option R) fun x0 x2 x3 x4 x16 x43 x47 x61 x86 base s k =>
  bndP (loadQ true 3 x3 s.h) fun y0 =>
  bndO (storeQ x2 y0 3 s) fun _ s =>
  k (.mk .top x2 .top .top .top .top .top .top .top) s
noncomputable def S74b22 {R : Type} (call : Nat → List AV → M AV) (fuel : Nat) : SC W74 W74 R := sSeq (sSeq (sReg 5 (S74r10 call)) (sCond (@W74.rec (fun _ => AV) fun _ _ _ _ _ x43 _ _ _ => x43) (sSkip) (sExit 0))) (sBlock 1 (sSeq (sSeq (sReg 4 (S74r11 call)) (sCond (@W74.rec (fun _ => AV) fun _ _ _ _ _ _ x47 _ _ => x47) (sReg 2 (S74r12 call)) (sSkip))) (sSeq (sReg 5 (S74r13 call)) (sSeq (sSeq (sReg 9 (S74r14 call)) (sCond (@W74.rec (fun _ => AV) fun _ _ _ _ _ _ _ x61 _ => x61) (sSeq (sReg 8 (S74r15 call)) (sReg 4 (S74r16 call))) (sSkip))) (sSeq (sReg 7 (S74r17 call)) (sSeq (sSeq (sReg 9 (S74r18 call)) (sCond (@W74.rec (fun _ => AV) fun _ _ _ _ _ _ _ _ x86 => x86) (sSeq (sReg 8 (S74r19 call)) (sExit 1)) (sSkip))) (sSeq (sReg 2 (S74r20 call)) (sSeq (sReg 2 (S74r21 call)) (sRet)))))))))
noncomputable def S74r23 {R : Type} (call : Nat → List AV → M AV) : W74 → Nat → AS → (W74 → AS → Option R) → Option R := @W74.rec (fun _ => Nat → AS → (W74 → AS → Option R) → Option R) fun x0 x2 x3 x4 x16 x43 x47 x61 x86 base s k =>
  bndP (loadQ true 3 x3 s.h) fun y0 =>
  bndO (storeQ x2 y0 3 s) fun _ s =>
  k (.mk .top x2 .top .top .top .top .top .top .top) s
noncomputable def S74c {R : Type} (call : Nat → List AV → M AV) (fuel : Nat) : SC V74 W74 R := sSeq (sReg 1 (S74r0 call)) (sSeq (sReg 5 (S74r1 call)) (sSeq (sSeq (sReg 9 (S74r2 call)) (sCond (@W74.rec (fun _ => AV) fun _ _ _ _ x16 _ _ _ _ => x16) (sSeq (sReg 8 (S74r3 call)) (sSeq (sReg 4 (S74r4 call)) (sSeq (sReg 2 (S74r5 call)) (sSeq (sReg 6 (S74r6 call)) (sSeq (sReg 2 (S74r7 call)) (sSeq (sReg 2 (S74r8 call)) (sRet))))))) (sSkip))) (sSeq (sReg 2 (S74r9 call)) (sSeq (sBlock 0 (sLoop fuel (S74b22 call fuel))) (sSeq (sReg 2 (S74r23 call)) (sRet))))))
noncomputable def S74e : Ex → W74 → AS → Option (AV × AS) := fun e w s => (@W74.rec (fun _ => Option (AV × AS)) fun _ x2 _ _ _ _ _ _ _ => @Ex.rec (fun _ => Option (AV × AS)) (match resS [fun h => loadA true 3 x2 h] s.h with | some vs => some (shut vs, s) | none => none) (fun _ => none) (match resS [fun h => loadA true 3 x2 h] s.h with | some vs => some (shut vs, s) | none => none) e) w
noncomputable def S74 (call : Nat → List AV → M AV) (fuel : Nat) (args : List AV) (s : AS) : Option (AV × AS) := match args with
  | [x0] => S74c call fuel x0 s S74e
  | _ => none
theorem S74_sim (call : Nat → List AV → M AV) (fuel : Nat) : Sim (R := AV × AS) call fuel mi74 mo74 A74.code (S74c call fuel) := by
  refine sim_seq (sim_reg (fun x0 _ _ _ => by kernel_rfl)) (sim_seq (sim_reg (fun ⟨x0, x2, x3, x4, x16, x43, x47, x61, x86⟩ _ _ _ => by kernel_rfl)) (sim_seq (sim_seq (sim_reg (fun ⟨x0, x2, x3, x4, x16, x43, x47, x61, x86⟩ _ _ _ => by kernel_rfl)) (sim_cond (fun ⟨x0, x2, x3, x4, x16, x43, x47, x61, x86⟩ => by kernel_rfl) (sim_seq (sim_reg (fun ⟨x0, x2, x3, x4, x16, x43, x47, x61, x86⟩ _ _ _ => by kernel_rfl)) (sim_seq (sim_reg (fun ⟨x0, x2, x3, x4, x16, x43, x47, x61, x86⟩ _ _ _ => by kernel_rfl)) (sim_seq (sim_reg (fun ⟨x0, x2, x3, x4, x16, x43, x47, x61, x86⟩ _ _ _ => by kernel_rfl)) (sim_seq (sim_reg (fun ⟨x0, x2, x3, x4, x16, x43, x47, x61, x86⟩ _ _ _ => by kernel_rfl)) (sim_seq (sim_reg (fun ⟨x0, x2, x3, x4, x16, x43, x47, x61, x86⟩ _ _ _ => by kernel_rfl)) (sim_seq (sim_reg (fun ⟨x0, x2, x3, x4, x16, x43, x47, x61, x86⟩ _ _ _ => by kernel_rfl)) (sim_ret))))))) (sim_skip))) (sim_seq (sim_reg (fun ⟨x0, x2, x3, x4, x16, x43, x47, x61, x86⟩ _ _ _ => by kernel_rfl)) (sim_seq (sim_block (sim_loop (sim_seq (sim_seq (sim_reg (fun ⟨x0, x2, x3, x4, x16, x43, x47, x61, x86⟩ _ _ _ => by kernel_rfl)) (sim_cond (fun ⟨x0, x2, x3, x4, x16, x43, x47, x61, x86⟩ => by kernel_rfl) (sim_skip) (sim_exit))) (sim_block (sim_seq (sim_seq (sim_reg (fun ⟨x0, x2, x3, x4, x16, x43, x47, x61, x86⟩ _ _ _ => by kernel_rfl)) (sim_cond (fun ⟨x0, x2, x3, x4, x16, x43, x47, x61, x86⟩ => by kernel_rfl) (sim_reg (fun ⟨x0, x2, x3, x4, x16, x43, x47, x61, x86⟩ _ _ _ => by kernel_rfl)) (sim_skip))) (sim_seq (sim_reg (fun ⟨x0, x2, x3, x4, x16, x43, x47, x61, x86⟩ _ _ _ => by kernel_rfl)) (sim_seq (sim_seq (sim_reg (fun ⟨x0, x2, x3, x4, x16, x43, x47, x61, x86⟩ _ _ _ => by kernel_rfl)) (sim_cond (fun ⟨x0, x2, x3, x4, x16, x43, x47, x61, x86⟩ => by kernel_rfl) (sim_seq (sim_reg (fun ⟨x0, x2, x3, x4, x16, x43, x47, x61, x86⟩ _ _ _ => by kernel_rfl)) (sim_reg (fun ⟨x0, x2, x3, x4, x16, x43, x47, x61, x86⟩ _ _ _ => by kernel_rfl))) (sim_skip))) (sim_seq (sim_reg (fun ⟨x0, x2, x3, x4, x16, x43, x47, x61, x86⟩ _ _ _ => by kernel_rfl)) (sim_seq (sim_seq (sim_reg (fun ⟨x0, x2, x3, x4, x16, x43, x47, x61, x86⟩ _ _ _ => by kernel_rfl)) (sim_cond (fun ⟨x0, x2, x3, x4, x16, x43, x47, x61, x86⟩ => by kernel_rfl) (sim_seq (sim_reg (fun ⟨x0, x2, x3, x4, x16, x43, x47, x61, x86⟩ _ _ _ => by kernel_rfl)) (sim_exit)) (sim_skip))) (sim_seq (sim_reg (fun ⟨x0, x2, x3, x4, x16, x43, x47, x61, x86⟩ _ _ _ => by kernel_rfl)) (sim_seq (sim_reg (fun ⟨x0, x2, x3, x4, x16, x43, x47, x61, x86⟩ _ _ _ => by kernel_rfl)) (sim_ret)))))))))))) (sim_seq (sim_reg (fun ⟨x0, x2, x3, x4, x16, x43, x47, x61, x86⟩ _ _ _ => by kernel_rfl)) (sim_ret))))))
theorem S74_ok (call : Nat → List AV → M AV) (fuel : Nat) (args : List AV) (s : AS) : afn call fuel A74 args s = S74 call fuel args s := by
  rcases args with _ | ⟨x0, _ | ⟨x1, r⟩⟩
  · kernel_rfl
  · exact (afn_sim (S74_sim call fuel) (v := x0) (e2 := S74e) (by kernel_rfl) (by kernel_rfl) (fun e w s => by cases w; cases e <;> kernel_rfl)).trans (by kernel_rfl)
  · kernel_rfl
def A75 : AFn := { nargs := 2, ntmps := 22, res := [], code := .seq (.seq (.ops [⟨0, (some 4), none, .p (.mv (.tmp 0)), []⟩, ⟨1, (some 5), none, .p (.nilchk (.tmp 4)), []⟩, ⟨2, (some 6), none, .p (.fld 3 (.tmp 5)), []⟩, ⟨3, (some 7), none, .r (.load false 1 (.tmp 6)), []⟩, ⟨4, (some 8), none, .p (.bin .neq (.tmp 7) (.const (.int .i64 0))), []⟩] 5 [0, 1, 8]) (.cond (.tmp 8) (.ret) (.skip))) (.seq (.seq (.ops [⟨0, (some 9), none, .p (.mv (.tmp 0)), []⟩, ⟨1, (some 10), none, .p (.mv (.tmp 1)), []⟩, ⟨2, (some 11), none, .e (.call true 73 [.tmp 9, .tmp 10]), []⟩, ⟨3, (some 12), none, .p (.notb (.tmp 11)), []⟩] 4 [0, 12]) (.cond (.tmp 12) (.seq (.ops [⟨0, (some 13), none, .p (.mv (.tmp 0)), []⟩, ⟨1, (some 14), none, .e (.call false 71 [.tmp 13, .const (.int .i64 9)]), []⟩] 2 []) (.ret)) (.skip))) (.ops [⟨0, (some 15), none, .p (.mv (.tmp 0)), []⟩, ⟨1, (some 16), none, .p (.nilchk (.tmp 15)), []⟩, ⟨2, (some 17), none, .p (.fld 1 (.tmp 16)), []⟩, ⟨3, (some 18), none, .r (.load false 1 (.tmp 17)), []⟩, ⟨4, (some 19), none, .p (.bin .add (.tmp 18) (.const (.int .i64 1))), []⟩, ⟨5, (some 20), none, .p (.nilchk (.tmp 15)), []⟩, ⟨6, (some 21), none, .p (.fld 1 (.tmp 20)), []⟩, ⟨7, none, none, .e (.store (.tmp 21) (.tmp 19) 1), []⟩] 8 [])) }
def N75 : Notes := { note := fun _ => none, keep := fun | 3 => [] | 2 => [] | 1 => [0, 12] | 0 => [0, 1, 8] | _ => [] }
theorem A75_ok : cFn Try.prog qf N75 Try.f75 = some A75 := by kernel_rfl
inductive W75 where
  | mk (x0 x1 x8 x12 : AV)
inductive V75 where
  | mk (x0 x1 : AV)
def mo75 : W75 → Fr := fun ⟨x0, x1, x8, x12⟩ => [x0, x1, .top, .top, .top, .top, .top, .top, x8, .top, .top, .top, x12, .top, .top, .top, .top, .top, .top, .top, .top, .top]
def mi75 : V75 → Fr := fun ⟨x0, x1⟩ => [x0, x1, .tup [], .tup [], .tup [], .tup [], .tup [], .tup [], .tup [], .tup [], .tup [], .tup [], .tup [], .tup [], .tup [], .tup [], .tup [], .tup [], .tup [], .tup [], .tup [], .tup []]
noncomputable def S75r0 {R : Type} (call : Nat → List AV → M AV) : V75 → Nat → AS → (W75 → AS → Option R) → Option R := @V75.rec (fun _ => Nat → AS → (W75 → AS → Option R) → Option R) fun x0 x1 base s k =>
  bndP (nilchkA x0) fun y0 =>
  bndP (fldA 3 y0) fun y1 =>
  bndP (loadQ false 1 y1 s.h) fun y2 =>
  bndP (binQ .neq y2 ((.int .i64 0) : AV)) fun y3 =>
  k (.mk x0 x1 y3 .top) s
noncomputable def S75r1 {R : Type} (call : Nat → List AV → M AV) : W75 → Nat → AS → (W75 → AS → Option R) → Option R := @W75.rec (fun _ => Nat → AS → (W75 → AS → Option R) → Option R) fun x0 x1 x8 x12 base s k =>
  bndO (quietQ call 73 [x0, x1] s) fun y0 s =>
  bndP (notA y0) fun y1 =>
  k (.mk x0 .top .top y1) s
noncomputable def S75r2 {R : Type} (call : Nat → List AV → M AV) : W75 → Nat → AS → (W75 → AS → Option R) → Option R := @W75.rec (fun _ => Nat → AS → (W75 → AS → Option R) → Option R) fun x0 x1 x8 x12 base s k =>
  bndO (call 71 [x0, ((.int .i64 9) : AV)] s) fun y0 s =>
  k (.mk .top .top .top .top) s
noncomputable def S75r3 {R : Type} (call : Nat → List AV → M AV) : W75 → Nat → AS → (W75 → AS → Option R) → Option R := @W75.rec (fun _ => Nat → AS → (W75 → AS → Option R) → Option R) fun x0 x1 x8 x12 base s k =>
  bndP (nilchkA x0) fun y0 =>
  bndP (fldA 1 y0) fun y1 =>
  bndP (loadQ false 1 y1 s.h) fun y2 =>
  bndP (binQ .add y2 ((.int .i64 1) : AV)) fun y3 =>
  bndP (nilchkA x0) fun y4 =>
  bndP (fldA 1 y4) fun y5 =>
  bndO (storeQ y5 y3 1 s) fun _ s =>
  k (.mk .top .top .top .top) s
noncomputable def S75c {R : Type} (call : Nat → List AV → M AV) (fuel : Nat) : SC V75 W75 R := sSeq (sSeq (sReg 5 (S75r0 call)) (sCond (@W75.rec (fun _ => AV) fun _ _ x8 _ => x8) (sRet) (sSkip))) (sSeq (sSeq (sReg 4 (S75r1 call)) (sCond (@W75.rec (fun _ => AV) fun _ _ _ x12 => x12) (sSeq (sReg 2 (S75r2 call)) (sRet)) (sSkip))) (sReg 8 (S75r3 call)))
noncomputable def S75e : Ex → W75 → AS → Option (AV × AS) := fun e w s => (@W75.rec (fun _ => Option (AV × AS)) fun _ _ _ _ => @Ex.rec (fun _ => Option (AV × AS)) (some (.tup [], s)) (fun _ => none) (some (.tup [], s)) e) w
noncomputable def S75 (call : Nat → List AV → M AV) (fuel : Nat) (args : List AV) (s : AS) : Option (AV × AS) := match args with
  | [x0, x1] => S75c call fuel (.mk x0 x1) s S75e
  | _ => none
theorem S75_sim (call : Nat → List AV → M AV) (fuel : Nat) : Sim (R := AV × AS) call fuel mi75 mo75 A75.code (S75c call fuel) := by
  refine sim_seq (sim_seq (sim_reg (fun ⟨x0, x1⟩ _ _ _ => by kernel_rfl)) (sim_cond (fun ⟨x0, x1, x8, x12⟩ => by kernel_rfl) (sim_ret) (sim_skip))) (sim_seq (sim_seq (sim_reg (fun ⟨x0, x1, x8, x12⟩ _ _ _ => by kernel_rfl)) (sim_cond (fun ⟨x0, x1, x8, x12⟩ => by kernel_rfl) (sim_seq (sim_reg (fun ⟨x0, x1, x8, x12⟩ _ _ _ => by kernel_rfl)) (sim_ret)) (sim_skip))) (sim_reg (fun ⟨x0, x1, x8, x12⟩ _ _ _ => by kernel_rfl)))
theorem S75_ok (call : Nat → List AV → M AV) (fuel : Nat) (args : List AV) (s : AS) : afn call fuel A75 args s = S75 call fuel args s := by
  rcases args with _ | ⟨x0, _ | ⟨x1, _ | ⟨x2, r⟩⟩⟩
  · kernel_rfl
  · kernel_rfl
  · exact (afn_sim (S75_sim call fuel) (v := (.mk x0 x1)) (e2 := S75e) (by kernel_rfl) (by kernel_rfl) (fun e w s => by cases w; cases e <;> kernel_rfl)).trans (by kernel_rfl)
  · kernel_rfl
def A76 : AFn := { nargs := 1, ntmps := 28, res := [.tmp 2], code := .seq (.ops [⟨0, (some 2), none, .p (.mv (.const (.bool false))), []⟩] 1 [0]) (.seq (.seq (.ops [⟨0, (some 4), none, .p (.mv (.tmp 0)), []⟩, ⟨1, (some 5), none, .p (.bin .eql (.tmp 4) (.const (.str []))), []⟩, ⟨2, (some 6), none, .p (.mv (.tmp 5)), []⟩, ⟨3, (some 7), (some (6, false)), .p (.mv (.tmp 0)), []⟩, ⟨4, (some 8), (some (6, false)), .p (.lenS true (.tmp 7)), []⟩, ⟨5, (some 9), (some (6, false)), .p (.bin .gtr (.tmp 8) (.const (.int .i64 30))), []⟩, ⟨6, (some 10), none, .p (.pick (.tmp 6) (.const (.bool true)) (.tmp 9)), []⟩, ⟨7, (some 11), none, .p (.mv (.tmp 10)), []⟩, ⟨8, (some 12), (some (11, false)), .p (.mv (.tmp 0)), []⟩, ⟨9, (some 13), (some (11, false)), .p (.idxs (.tmp 12) (.const (.int .i64 0))), []⟩, ⟨10, (some 14), (some (11, false)), .e (.call true 102 [.tmp 13]), []⟩, ⟨11, (some 15), (some (11, false)), .p (.notb (.tmp 14)), []⟩, ⟨12, (some 16), none, .p (.pick (.tmp 11) (.const (.bool true)) (.tmp 15)), []⟩] 13 [0, 16]) (.cond (.tmp 16) (.seq (.ops [⟨0, (some 2), none, .p (.mv (.const (.bool false))), []⟩] 1 [2]) (.ret)) (.skip))) (.seq (.seq (.ops [⟨0, (some 17), none, .p (.mv (.tmp 0)), []⟩, ⟨1, (some 18), none, .p (.lenS true (.tmp 17)), []⟩, ⟨2, (some 19), none, .p (.mv (.const (.int .i64 0))), []⟩] 3 [0, 18, 19]) (.block 0 (.loop (.seq (.ops [⟨0, (some 20), none, .p (.bin .lss (.tmp 19) (.tmp 18)), []⟩] 1 [0, 18, 19, 20]) (.seq (.cond (.tmp 20) (.skip) (.exit 0)) (.seq (.block 1 (.seq (.ops [⟨0, (some 21), none, .p (.mv (.tmp 19)), []⟩, ⟨1, (some 3), none, .p (.mv (.tmp 21)), []⟩] 2 [0, 3, 18, 19]) (.seq (.ops [⟨0, (some 22), none, .p (.mv (.tmp 0)), []⟩, ⟨1, (some 23), none, .p (.mv (.tmp 3)), []⟩, ⟨2, (some 24), none, .p (.idxs (.tmp 22) (.tmp 23)), []⟩, ⟨3, (some 25), none, .e (.call true 103 [.tmp 24]), []⟩, ⟨4, (some 26), none, .p (.notb (.tmp 25)), []⟩] 5 [0, 18, 19, 26]) (.cond (.tmp 26) (.seq (.ops [⟨0, (some 2), none, .p (.mv (.const (.bool false))), []⟩] 1 [2]) (.ret)) (.skip))))) (.ops [⟨0, (some 27), none, .p (.bin .add (.tmp 19) (.const (.int .i64 1))), []⟩, ⟨1, (some 19), none, .p (.mv (.tmp 27)), []⟩] 2 [0, 18, 19]))))))) (.seq (.ops [⟨0, (some 2), none, .p (.mv (.const (.bool true))), []⟩] 1 [2]) (.ret)))) }
def N76 : Notes := { note := fun _ => none, keep := fun | 9 => [2] | 8 => [0, 18, 19] | 7 => [2] | 6 => [0, 18, 19, 26] | 5 => [0, 3, 18, 19] | 4 => [0, 18, 19, 20] | 3 => [0, 18, 19] | 2 => [2] | 1 => [0, 16] | 0 => [0] | _ => [] }
theorem A76_ok : cFn Try.prog qf N76 Try.f76 = some A76 := by kernel_rfl
inductive W76 where
  | mk (x0 x2 x3 x16 x18 x19 x20 x26 : AV)
abbrev V76 := AV
def mo76 : W76 → Fr := fun ⟨x0, x2, x3, x16, x18, x19, x20, x26⟩ => [x0, .top, x2, x3, .top, .top, .top, .top, .top, .top, .top, .top, .top, .top, .top, .top, x16, .top, x18, x19, x20, .top, .top, .top, .top, .top, x26, .top]
def mi76 : V76 → Fr := fun x0 => [x0, .tup [], .tup [], .tup [], .tup [], .tup [], .tup [], .tup [], .tup [], .tup [], .tup [], .tup [], .tup [], .tup [], .tup [], .tup [], .tup [], .tup [], .tup [], .tup [], .tup [], .tup [], .tup [], .tup [], .tup [], .tup [], .tup [], .tup []]
noncomputable def S76r0 {R : Type} (call : Nat → List AV → M AV) : V76 → Nat → AS → (W76 → AS → Option R) → Option R := fun x0 base s k =>
  k (.mk x0 .top .top .top .top .top .top .top) s
noncomputable def S76r1 {R : Type} (call : Nat → List AV → M AV) : W76 → Nat → AS → (W76 → AS → Option R) → Option R := @W76.rec (fun _ => Nat → AS → (W76 → AS → Option R) → Option R) fun x0 x2 x3 x16 x18 x19 x20 x26 base s k =>
  bndP (binQ .eql x0 ((.str []) : AV)) fun y0 =>
  bndO (gd (wantG y0 false) (fun s => (pureO (some x0) s)) s) fun y1 s =>
  bndO (gd (wantG y0 false) (fun s => (pureO (lenAQ true y1) s)) s) fun y2 s =>
  bndO (gd (wantG y0 false) (fun s => (pureO (binQ .gtr y2 ((.int .i64 30) : AV)) s)) s) fun y3 s =>
  bndP (pickA y0 ((.bool true) : AV) y3) fun y4 =>
  bndO (gd (wantG y4 false) (fun s => (pureO (some x0) s)) s) fun y5 s =>
  bndO (gd (wantG y4 false) (fun s => (pureO (idxsQ y5 ((.int .i64 0) : AV)) s)) s) fun y6 s =>
  bndO (gd (wantG y4 false) (fun s => (quietQ call 102 [y6] s)) s) fun y7 s =>
  bndO (gd (wantG y4 false) (fun s => (pureO (notA y7) s)) s) fun y8 s =>
  bndP (pickA y4 ((.bool true) : AV) y8) fun y9 =>
  k (.mk x0 .top .top y9 .top .top .top .top) s
noncomputable def S76r2 {R : Type} (call : Nat → List AV → M AV) : W76 → Nat → AS → (W76 → AS → Option R) → Option R := @W76.rec (fun _ => Nat → AS → (W76 → AS → Option R) → Option R) fun x0 x2 x3 x16 x18 x19 x20 x26 base s k =>
  k (.mk .top ((.bool false) : AV) .top .top .top .top .top .top) s
noncomputable def S76r3 {R : Type} (call : Nat → List AV → M AV) : W76 → Nat → AS → (W76 → AS → Option R) → Option R := @W76.rec (fun _ => Nat → AS → (W76 → AS → Option R) → Option R) fun x0 x2 x3 x16 x18 x19 x20 x26 base s k =>
  bndP (lenAQ true x0) fun y0 =>
  k (.mk x0 .top .top .top y0 ((.int .i64 0) : AV) .top .top) s
noncomputable def S76r4 {R : Type} (call : Nat → List AV → M AV) : W76 → Nat → AS → (W76 → AS → Option R) → Option R := @W76.rec (fun _ => Nat → AS → (W76 → AS → Option R) → Option R) fun x0 x2 x3 x16 x18 x19 x20 x26 base s k =>
  bndP (binQ .lss x19 x18) fun y0 =>
  k (.mk x0 .top .top .top x18 x19 y0 .top) s
noncomputable def S76r5 {R : Type} (call : Nat → List AV → M AV) : W76 → Nat → AS → (W76 → AS → Option R) → Option R := @W76.rec (fun _ => Nat → AS → (W76 → AS → Option R) → Option R) fun x0 x2 x3 x16 x18 x19 x20 x26 base s k =>
  k (.mk x0 .top x19 .top x18 x19 .top .top) s
noncomputable def S76r6 {R : Type} (call : Nat → List AV → M AV) : W76 → Nat → AS → (W76 → AS → Option R) → Option R := @W76.rec (fun _ => Nat → AS → (W76 → AS → Option R) → Option R) fun x0 x2 x3 x16 x18 x19 x20 x26 base s k =>
  bndP (idxsQ x0 x3) fun y0 =>
  bndO (quietQ call 103 [y0] s) fun y1 s =>
  bndP (notA y1) fun y2 =>
  k (.mk x0 .top .top .top x18 x19 .top y2) s
noncomputable def S76r7 {R : Type} (call : Nat → List AV → M AV) : W76 → Nat → AS → (W76 → AS → Option R) → Option R := @W76.rec (fun _ => Nat → AS → (W76 → AS → Option R) → Option R) fun x0 x2 x3 x16 x18 x19 x20 x26 base s k =>
  k (.mk .top ((.bool false) : AV) .top .top .top .top .top .top) s
noncomputable def S76r8 {R : Type} (call : Nat → List AV → M AV) : W76 → Nat → AS → (W76 → AS → Option R) → Option R := @W76.rec (fun _ => Nat → AS → (W76 → AS → Option R) → Option R) fun x0 x2 x3 x16 x18 x19 x20 x26 base s k =>
  bndP (binQ .add x19 ((.int .i64 1) : AV)) fun y0 =>
  k (.mk x0 .top .top .top x18 y0 .top .top) s
noncomputable def S76b9 {R : Type} (call : Nat → List AV → M AV) (fuel : Nat) : SC W76 W76 R := sSeq (sReg 1 (S76r4 call)) (sSeq (sCond (@W76.rec (fun _ => AV) fun _ _ _ _ _ _ x20 _ => x20) (sSkip) (sExit 0)) (sSeq (sBlock 1 (sSeq (sReg 2 (S76r5 call)) (sSeq (sReg 5 (S76r6 call)) (sCond (@W76.rec (fun _ => AV) fun _ _ _ _ _ _ _ x26 => x26) (sSeq (sReg 1 (S76r7 call)) (sRet)) (sSkip))))) (sReg 2 (S76r8 call))))
noncomputable def S76r10 {R : Type} (call : Nat → List AV → M AV) : W76 → Nat → AS → (W76 → AS → Option R) → Option R := @W76.rec (fun _ => Nat → AS → (W76 → AS → Option R) → Option R) fun x0 x2 x3 x16 x18 x19 x20 x26 base s k =>
  k (.mk .top ((.bool true) : AV) .top .top .top .top .top .top) s
noncomputable def S76c {R : Type} (call : Nat → List AV → M AV) (fuel : Nat) : SC V76 W76 R := sSeq (sReg 1 (S76r0 call)) (sSeq (sSeq (sReg 13 (S76r1 call)) (sCond (@W76.rec (fun _ => AV) fun _ _ _ x16 _ _ _ _ => x16) (sSeq (sReg 1 (S76r2 call)) (sRet)) (sSkip))) (sSeq (sSeq (sReg 3 (S76r3 call)) (sBlock 0 (sLoop fuel (S76b9 call fuel)))) (sSeq (sReg 1 (S76r10 call)) (sRet))))
noncomputable def S76e : Ex → W76 → AS → Option (AV × AS) := fun e w s => (@W76.rec (fun _ => Option (AV × AS)) fun _ x2 _ _ _ _ _ _ => @Ex.rec (fun _ => Option (AV × AS)) (some (x2, s)) (fun _ => none) (some (x2, s)) e) w
noncomputable def S76 (call : Nat → List AV → M AV) (fuel : Nat) (args : List AV) (s : AS) : Option (AV × AS) := match args with
  | [x0] => S76c call fuel x0 s S76e
  | _ => none
theorem S76_sim (call : Nat → List AV → M AV) (fuel : Nat) : Sim (R := AV × AS) call fuel mi76 mo76 A76.code (S76c call fuel) := by
  refine sim_seq (sim_reg (fun x0 _ _ _ => by kernel_rfl)) (sim_seq (sim_seq (sim_reg (fun ⟨x0, x2, x3, x16, x18, x19, x20, x26⟩ _ _ _ => by kernel_rfl)) (sim_cond (fun ⟨x0, x2, x3, x16, x18, x19, x20, x26⟩ => by kernel_rfl) (sim_seq (sim_reg (fun ⟨x0, x2, x3, x16, x18, x19, x20, x26⟩ _ _ _ => by kernel_rfl)) (sim_ret)) (sim_skip))) (sim_seq (sim_seq (sim_reg (fun ⟨x0, x2, x3, x16, x18, x19, x20, x26⟩ _ _ _ => by kernel_rfl)) (sim_block (sim_loop (sim_seq (sim_reg (fun ⟨x0, x2, x3, x16, x18, x19, x20, x26⟩ _ _ _ => by kernel_rfl)) (sim_seq (sim_cond (fun ⟨x0, x2, x3, x16, x18, x19, x20, x26⟩ => by kernel_rfl) (sim_skip) (sim_exit)) (sim_seq (sim_block (sim_seq (sim_reg (fun ⟨x0, x2, x3, x16, x18, x19, x20, x26⟩ _ _ _ => by kernel_rfl)) (sim_seq (sim_reg (fun ⟨x0, x2, x3, x16, x18, x19, x20, x26⟩ _ _ _ => by kernel_rfl)) (sim_cond (fun ⟨x0, x2, x3, x16, x18, x19, x20, x26⟩ => by kernel_rfl) (sim_seq (sim_reg (fun ⟨x0, x2, x3, x16, x18, x19, x20, x26⟩ _ _ _ => by kernel_rfl)) (sim_ret)) (sim_skip))))) (sim_reg (fun ⟨x0, x2, x3, x16, x18, x19, x20, x26⟩ _ _ _ => by kernel_rfl)))))))) (sim_seq (sim_reg (fun ⟨x0, x2, x3, x16, x18, x19, x20, x26⟩ _ _ _ => by kernel_rfl)) (sim_ret))))
theorem S76_ok (call : Nat → List AV → M AV) (fuel : Nat) (args : List AV) (s : AS) : afn call fuel A76 args s = S76 call fuel args s := by
  rcases args with _ | ⟨x0, _ | ⟨x1, r⟩⟩
  · kernel_rfl
  · exact (afn_sim (S76_sim call fuel) (v := x0) (e2 := S76e) (by kernel_rfl) (by kernel_rfl) (fun e w s => by cases w; cases e <;> kernel_rfl)).trans (by kernel_rfl)
  · kernel_rfl
def A77 : AFn := { nargs := 1, ntmps := 36, res := [.tmp 2], code := .seq (.ops [⟨0, (some 2), none, .p (.mv (.const (.bool false))), []⟩] 1 [0]) (.seq (.seq (.ops [⟨0, (some 5), none, .p (.mv (.tmp 0)), []⟩, ⟨1, (some 6), none, .p (.lenS true (.tmp 5)), []⟩, ⟨2, (some 7), none, .p (.mv (.const (.int .i64 0))), []⟩] 3 [0, 6, 7]) (.block 0 (.loop (.seq (.ops [⟨0, (some 8), none, .p (.bin .lss (.tmp 7) (.tmp 6)), []⟩] 1 [0, 6, 7, 8]) (.seq (.cond (.tmp 8) (.skip) (.exit 0)) (.seq (.block 1 (.seq (.ops [⟨0, (some 9), none, .p (.mv (.tmp 7)), []⟩, ⟨1, (some 3), none, .p (.mv (.tmp 9)), []⟩] 2 [0, 3, 6, 7]) (.seq (.ops [⟨0, (some 10), none, .p (.mv (.tmp 0)), []⟩, ⟨1, (some 11), none, .p (.mv (.tmp 3)), []⟩, ⟨2, (some 12), none, .p (.idxs (.tmp 10) (.tmp 11)), []⟩, ⟨3, (some 4), none, .p (.mv (.tmp 12)), []⟩] 4 [0, 4, 6, 7]) (.seq (.ops [⟨0, (some 13), none, .p (.mv (.tmp 4)), []⟩, ⟨1, (some 14), none, .e (.call true 103 [.tmp 13]), []⟩, ⟨2, (some 15), none, .p (.notb (.tmp 14)), []⟩, ⟨3, (some 16), none, .p (.mv (.tmp 15)), []⟩, ⟨4, (some 17), (some (16, true)), .p (.mv (.tmp 4)), []⟩, ⟨5, (some 18), (some (16, true)), .p (.bin .neq (.tmp 17) (.const (.int .u8 47))), []⟩, ⟨6, (some 19), none, .p (.pick (.tmp 16) (.tmp 18) (.const (.bool false))), []⟩, ⟨7, (some 20), none, .p (.mv (.tmp 19)), []⟩, ⟨8, (some 21), (some (20, true)), .p (.mv (.tmp 4)), []⟩, ⟨9, (some 22), (some (20, true)), .p (.bin .neq (.tmp 21) (.const (.int .u8 124))), []⟩, ⟨10, (some 23), none, .p (.pick (.tmp 20) (.tmp 22) (.const (.bool false))), []⟩, ⟨11, (some 24), none, .p (.mv (.tmp 23)), []⟩, ⟨12, (some 25), (some (24, true)), .p (.mv (.tmp 4)), []⟩, ⟨13, (some 26), (some (24, true)), .p (.bin .neq (.tmp 25) (.const (.int .u8 42))), []⟩, ⟨14, (some 27), none, .p (.pick (.tmp 24) (.tmp 26) (.const (.bool false))), []⟩] 15 [0, 6, 7, 27]) (.cond (.tmp 27) (.seq (.ops [⟨0, (some 2), none, .p (.mv (.const (.bool false))), []⟩] 1 [2]) (.ret)) (.skip)))))) (.ops [⟨0, (some 28), none, .p (.bin .add (.tmp 7) (.const (.int .i64 1))), []⟩, ⟨1, (some 7), none, .p (.mv (.tmp 28)), []⟩] 2 [0, 6, 7]))))))) (.seq (.ops [⟨0, (some 29), none, .p (.mv (.tmp 0)), []⟩, ⟨1, (some 30), none, .p (.bin .neq (.tmp 29) (.const (.str []))), []⟩, ⟨2, (some 31), none, .p (.mv (.tmp 30)), []⟩, ⟨3, (some 32), (some (31, true)), .p (.mv (.tmp 0)), []⟩, ⟨4, (some 33), (some (31, true)), .p (.lenS true (.tmp 32)), []⟩, ⟨5, (some 34), (some (31, true)), .p (.bin .leq (.tmp 33) (.const (.int .i64 250))), []⟩, ⟨6, (some 35), none, .p (.pick (.tmp 31) (.tmp 34) (.const (.bool false))), []⟩, ⟨7, (some 2), none, .p (.mv (.tmp 35)), []⟩] 8 [2]) (.ret))) }
def N77 : Notes := { note := fun _ => none, keep := fun | 8 => [2] | 7 => [0, 6, 7] | 6 => [2] | 5 => [0, 6, 7, 27] | 4 => [0, 4, 6, 7] | 3 => [0, 3, 6, 7] | 2 => [0, 6, 7, 8] | 1 => [0, 6, 7] | 0 => [0] | _ => [] }
theorem A77_ok : cFn Try.prog qf N77 Try.f77 = some A77 := by kernel_rfl
inductive W77 where
  | mk (x0 x2 x3 x4 x6 x7 x8 x27 : AV)
abbrev V77 := AV
def mo77 : W77 → Fr := fun ⟨x0, x2, x3, x4, x6, x7, x8, x27⟩ => [x0, .top, x2, x3, x4, .top, x6, x7, x8, .top, .top, .top, .top, .top, .top, .top, .top, .top, .top, .top, .top, .top, .top, .top, .top, .top, .top, x27, .top, .top, .top, .top, .top, .top, .top, .top]
def mi77 : V77 → Fr := fun x0 => [x0, .tup [], .tup [], .tup [], .tup [], .tup [], .tup [], .tup [], .tup [], .tup [], .tup [], .tup [], .tup [], .tup [], .tup [], .tup [], .tup [], .tup [], .tup [], .tup [], .tup [], .tup [], .tup [], .tup [], .tup [], .tup [], .tup [], .tup [], .tup [], .tup [], .tup [], .tup [], .tup [], .tup [], .tup [], .tup []]
noncomputable def S77r0 {R : Type} (call : Nat → List AV → M AV) : V77 → Nat → AS → (W77 → AS → Option R) → Option R := fun x0 base s k =>
  k (.mk x0 .top .top .top .top .top .top .top) s
noncomputable def S77r1 {R : Type} (call : Nat → List AV → M AV) : W77 → Nat → AS → (W77 → AS → Option R) → Option R := @W77.rec (fun _ => Nat → AS → (W77 → AS → Option R) → Option R) fun x0 x2 x3 x4 x6 x7 x8 x27 base s k =>
  bndP (lenAQ true x0) fun y0 =>
  k (.mk x0 .top .top .top y0 ((.int .i64 0) : AV) .top .top) s
noncomputable def S77r2 {R : Type} (call : Nat → List AV → M AV) : W77 → Nat → AS → (W77 → AS → Option R) → Option R := @W77.rec (fun _ => Nat → AS → (W77 → AS → Option R) → Option R) fun x0 x2 x3 x4 x6 x7 x8 x27 base s k =>
  bndP (binQ .lss x7 x6) fun y0 =>
  k (.mk x0 .top .top .top x6 x7 y0 .top) s
noncomputable def S77r3 {R : Type} (call : Nat → List AV → M AV) : W77 → Nat → AS → (W77 → AS → Option R) → Option R := @W77.rec (fun _ => Nat → AS → (W77 → AS → Option R) → Option R) fun x0 x2 x3 x4 x6 x7 x8 x27 base s k =>
  k (.mk x0 .top x7 .top x6 x7 .top .top) s
noncomputable def S77r4 {R : Type} (call : Nat → List AV → M AV) : W77 → Nat → AS → (W77 → AS → Option R) → Option R := @W77.rec (fun _ => Nat → AS → (W77 → AS → Option R) → Option R) fun x0 x2 x3 x4 x6 x7 x8 x27 base s k =>
  bndP (idxsQ x0 x3) fun y0 =>
  k (.mk x0 .top .top y0 x6 x7 .top .top) s
noncomputable def S77r5 {R : Type} (call : Nat → List AV → M AV) : W77 → Nat → AS → (W77 → AS → Option R) → Option R := @W77.rec (fun _ => Nat → AS → (W77 → AS → Option R) → Option R) fun x0 x2 x3 x4 x6 x7 x8 x27 base s k =>
  bndO (quietQ call 103 [x4] s) fun y0 s =>
  bndP (notA y0) fun y1 =>
  bndO (gd (wantG y1 true) (fun s => (pureO (some x4) s)) s) fun y2 s =>
  bndO (gd (wantG y1 true) (fun s => (pureO (binQ .neq y2 ((.int .u8 47) : AV)) s)) s) fun y3 s =>
  bndP (pickA y1 y3 ((.bool false) : AV)) fun y4 =>
  bndO (gd (wantG y4 true) (fun s => (pureO (some x4) s)) s) fun y5 s =>
  bndO (gd (wantG y4 true) (fun s => (pureO (binQ .neq y5 ((.int .u8 124) : AV)) s)) s) fun y6 s =>
  bndP (pickA y4 y6 ((.bool false) : AV)) fun y7 =>
  bndO (gd (wantG y7 true) (fun s => (pureO (some x4) s)) s) fun y8 s =>
  bndO (gd (wantG y7 true) (fun s => (pureO (binQ .neq y8 ((.int .u8 42) : AV)) s)) s) fun y9 s =>
  bndP (pickA y7 y9 ((.bool false) : AV)) fun y10 =>
  k (.mk x0 .top .top .top x6 x7 .top y10) s
noncomputable def S77r6 {R : Type} (call : Nat → List AV → M AV) : W77 → Nat → AS → (W77 → AS → Option R) → Option R := @W77.rec (fun _ => Nat → AS → (W77 → AS → Option R) → Option R) fun x0 x2 x3 x4 x6 x7 x8 x27 base s k =>
  k (.mk .top ((.bool false) : AV) .top .top .top .top .top .top) s
noncomputable def S77r7 {R : Type} (call : Nat → List AV → M AV) : W77 → Nat → AS → (W77 → AS → Option R) → Option R := @W77.rec (fun _ => Nat → AS → (W77 → AS → Option R) → Option R) fun x0 x2 x3 x4 x6 x7 x8 x27 base s k =>
  bndP (binQ .add x7 ((.int .i64 1) : AV)) fun y0 =>
  k (.mk x0 .top .top .top x6 y0 .top .top) s
noncomputable def S77b8 {R : Type} (call : Nat → List AV → M AV) (fuel : Nat) : SC W77 W77 R := sSeq (sReg 1 (S77r2 call)) (sSeq (sCond (@W77.rec (fun _ => AV) fun _ _ _ _ _ _ x8 _ => x8) (sSkip) (sExit 0)) (sSeq (sBlock 1 (sSeq (sReg 2 (S77r3 call)) (sSeq (sReg 4 (S77r4 call)) (sSeq (sReg 15 (S77r5 call)) (sCond (@W77.rec (fun _ => AV) fun _ _ _ _ _ _ _ x27 => x27) (sSeq (sReg 1 (S77r6 call)) (sRet)) (sSkip)))))) (sReg 2 (S77r7 call))))
noncomputable def S77r9 {R : Type} (call : Nat → List AV → M AV) : W77 → Nat → AS → (W77 → AS → Option R) → Option R := @W77.rec (fun _ => Nat → AS → (W77 → AS → Option R) → Option R) fun x0 x2 x3 x4 x6 x7 x8 x27 base s k =>
  bndP (binQ .neq x0 ((.str []) : AV)) fun y0 =>
  bndO (gd (wantG y0 true) (fun s => (pureO (some x0) s)) s) fun y1 s =>
  bndO (gd (wantG y0 true) (fun s => (pureO (lenAQ true y1) s)) s) fun y2 s =>
  bndO (gd (wantG y0 true) (fun s => (pureO (binQ .leq y2 ((.int .i64 250) : AV)) s)) s) fun y3 s =>
  bndP (pickA y0 y3 ((.bool false) : AV)) fun y4 =>
  k (.mk .top y4 .top .top .top .top .top .top) s
noncomputable def S77c {R : Type} (call : Nat → List AV → M AV) (fuel : Nat) : SC V77 W77 R := sSeq (sReg 1 (S77r0 call)) (sSeq (sSeq (sReg 3 (S77r1 call)) (sBlock 0 (sLoop fuel (S77b8 call fuel)))) (sSeq (sReg 8 (S77r9 call)) (sRet)))
noncomputable def S77e : Ex → W77 → AS → Option (AV × AS) := fun e w s => (@W77.rec (fun _ => Option (AV × AS)) fun _ x2 _ _ _ _ _ _ => @Ex.rec (fun _ => Option (AV × AS)) (some (x2, s)) (fun _ => none) (some (x2, s)) e) w
noncomputable def S77 (call : Nat → List AV → M AV) (fuel : Nat) (args : List AV) (s : AS) : Option (AV × AS) := match args with
  | [x0] => S77c call fuel x0 s S77e
  | _ => none
theorem S77_sim (call : Nat → List AV → M AV) (fuel : Nat) : Sim (R := AV × AS) call fuel mi77 mo77 A77.code (S77c call fuel) := by
  refine sim_seq (sim_reg (fun x0 _ _ _ => by kernel_rfl)) (sim_seq (sim_seq (sim_reg (fun ⟨x0, x2, x3, x4, x6, x7, x8, x27⟩ _ _ _ => by kernel_rfl)) (sim_block (sim_loop (sim_seq (sim_reg (fun ⟨x0, x2, x3, x4, x6, x7, x8, x27⟩ _ _ _ => by kernel_rfl)) (sim_seq (sim_cond (fun ⟨x0, x2, x3, x4, x6, x7, x8, x27⟩ => by kernel_rfl) (sim_skip) (sim_exit)) (sim_seq (sim_block (sim_seq (sim_reg (fun ⟨x0, x2, x3, x4, x6, x7, x8, x27⟩ _ _ _ => by kernel_rfl)) (sim_seq (sim_reg (fun ⟨x0, x2, x3, x4, x6, x7, x8, x27⟩ _ _ _ => by kernel_rfl)) (sim_seq (sim_reg (fun ⟨x0, x2, x3, x4, x6, x7, x8, x27⟩ _ _ _ => by kernel_rfl)) (sim_cond (fun ⟨x0, x2, x3, x4, x6, x7, x8, x27⟩ => by kernel_rfl) (sim_seq (sim_reg (fun ⟨x0, x2, x3, x4, x6, x7, x8, x27⟩ _ _ _ => by kernel_rfl)) (sim_ret)) (sim_skip)))))) (sim_reg (fun ⟨x0, x2, x3, x4, x6, x7, x8, x27⟩ _ _ _ => by kernel_rfl)))))))) (sim_seq (sim_reg (fun ⟨x0, x2, x3, x4, x6, x7, x8, x27⟩ _ _ _ => by kernel_rfl)) (sim_ret)))
theorem S77_ok (call : Nat → List AV → M AV) (fuel : Nat) (args : List AV) (s : AS) : afn call fuel A77 args s = S77 call fuel args s := by
  rcases args with _ | ⟨x0, _ | ⟨x1, r⟩⟩
  · kernel_rfl
  · exact (afn_sim (S77_sim call fuel) (v := x0) (e2 := S77e) (by kernel_rfl) (by kernel_rfl) (fun e w s => by cases w; cases e <;> kernel_rfl)).trans (by kernel_rfl)
  · kernel_rfl
def A78 : AFn := { nargs := 2, ntmps := 19, res := [.tmp 4], code := .seq (.ops [⟨0, (some 3), none, .l (.box (.tmp 1)), []⟩, ⟨1, (some 4), none, .p (.mv (.const (.int .i64 0))), []⟩] 2 [0, 3]) (.seq (.seq (.ops [⟨0, (some 6), none, .p (.mv (.tmp 0)), []⟩, ⟨1, (some 7), none, .p (.lenS false (.tmp 6)), []⟩, ⟨2, (some 8), none, .p (.mv (.const (.int .i64 0))), []⟩] 3 [0, 3, 7, 8]) (.block 0 (.loop (.seq (.ops [⟨0, (some 9), none, .p (.bin .lss (.tmp 8) (.tmp 7)), []⟩] 1 [0, 3, 7, 8, 9]) (.seq (.cond (.tmp 9) (.skip) (.exit 0)) (.seq (.block 1 (.seq (.ops [⟨0, (some 10), none, .p (.mv (.tmp 8)), []⟩, ⟨1, (some 5), none, .p (.mv (.tmp 10)), []⟩] 2 [0, 3, 5, 7, 8]) (.seq (.ops [⟨1, (some 12), none, .p (.mv (.tmp 0)), []⟩, ⟨2, (some 13), none, .p (.mv (.tmp 5)), []⟩, ⟨3, (some 14), none, .p (.idx 3 (.tmp 12) (.tmp 13)), []⟩, ⟨0, (some 11), none, .r (.load true 3 (.tmp 3)), []⟩, ⟨4, (some 15), none, .r (.load true 3 (.tmp 14)), []⟩, ⟨5, (some 16), none, .p (.eqs false [true, true, true] (.tmp 11) (.tmp 15)), []⟩] 6 [0, 3, 5, 7, 8, 16]) (.cond (.tmp 16) (.seq (.ops [⟨0, (some 17), none, .p (.mv (.tmp 5)), []⟩, ⟨1, (some 4), none, .p (.mv (.tmp 17)), []⟩] 2 [4]) (.ret)) (.skip))))) (.ops [⟨0, (some 18), none, .p (.bin .add (.tmp 8) (.const (.int .i64 1))), []⟩, ⟨1, (some 8), none, .p (.mv (.tmp 18)), []⟩] 2 [0, 3, 7, 8]))))))) (.seq (.ops [⟨0, (some 4), none, .p (.mv (.const (.int .i64 (-1)))), []⟩] 1 [4]) (.ret))) }
def N78 : Notes := { note := fun | 4 => some ⟨[1, 2, 3, 0, 4, 5], [0, 0, 0, 6, 14, 31], [[], [], [], [], [], []]⟩ | _ => none, keep := fun | 7 => [4] | 6 => [0, 3, 7, 8] | 5 => [4] | 4 => [0, 3, 5, 7, 8, 16] | 3 => [0, 3, 5, 7, 8] | 2 => [0, 3, 7, 8, 9] | 1 => [0, 3, 7, 8] | 0 => [0, 3] | _ => [] }
theorem A78_ok : cFn Try.prog qf N78 Try.f78 = some A78 := by kernel_rfl
inductive W78 where
  | mk (x0 x3 x4 x5 x7 x8 x9 x16 : AV)
inductive V78 where
  | mk (x0 x1 : AV)
def mo78 : W78 → Fr := fun ⟨x0, x3, x4, x5, x7, x8, x9, x16⟩ => [x0, .top, .top, x3, x4, x5, .top, x7, x8, x9, .top, .top, .top, .top, .top, .top, x16, .top, .top]
def mi78 : V78 → Fr := fun ⟨x0, x1⟩ => [x0, x1, .tup [], .tup [], .tup [], .tup [], .tup [], .tup [], .tup [], .tup [], .tup [], .tup [], .tup [], .tup [], .tup [], .tup [], .tup [], .tup [], .tup []]
noncomputable def S78r0 {R : Type} (call : Nat → List AV → M AV) : V78 → Nat → AS → (W78 → AS → Option R) → Option R := @V78.rec (fun _ => Nat → AS → (W78 → AS → Option R) → Option R) fun x0 x1 base s k =>
  bndO (newQ (base + 0) (boxB x1 (base + 0)) s) fun y0 s =>
  k (.mk x0 y0 .top .top .top .top .top .top) s
noncomputable def S78r1 {R : Type} (call : Nat → List AV → M AV) : W78 → Nat → AS → (W78 → AS → Option R) → Option R := @W78.rec (fun _ => Nat → AS → (W78 → AS → Option R) → Option R) fun x0 x3 x4 x5 x7 x8 x9 x16 base s k =>
  bndP (lenAQ false x0) fun y0 =>
  k (.mk x0 x3 .top .top y0 ((.int .i64 0) : AV) .top .top) s
noncomputable def S78r2 {R : Type} (call : Nat → List AV → M AV) : W78 → Nat → AS → (W78 → AS → Option R) → Option R := @W78.rec (fun _ => Nat → AS → (W78 → AS → Option R) → Option R) fun x0 x3 x4 x5 x7 x8 x9 x16 base s k =>
  bndP (binQ .lss x8 x7) fun y0 =>
  k (.mk x0 x3 .top .top x7 x8 y0 .top) s
noncomputable def S78r3 {R : Type} (call : Nat → List AV → M AV) : W78 → Nat → AS → (W78 → AS → Option R) → Option R := @W78.rec (fun _ => Nat → AS → (W78 → AS → Option R) → Option R) fun x0 x3 x4 x5 x7 x8 x9 x16 base s k =>
  k (.mk x0 x3 .top x8 x7 x8 .top .top) s
noncomputable def S78r4 {R : Type} (call : Nat → List AV → M AV) : W78 → Nat → AS → (W78 → AS → Option R) → Option R := @W78.rec (fun _ => Nat → AS → (W78 → AS → Option R) → Option R) fun x0 x3 x4 x5 x7 x8 x9 x16 base s k =>
  bndP (idxQ 3 x0 x5) fun y0 =>
  bndP (loadQ true 3 x3 s.h) fun y1 =>
  bndP (loadQ true 3 y0 s.h) fun y2 =>
  bndP (eqsA false [true, true, true] y1 y2) fun y3 =>
  k (.mk x0 x3 .top x5 x7 x8 .top y3) s
noncomputable def S78r5 {R : Type} (call : Nat → List AV → M AV) : W78 → Nat → AS → (W78 → AS → Option R) → Option R := @W78.rec (fun _ => Nat → AS → (W78 → AS → Option R) → Option R) fun x0 x3 x4 x5 x7 x8 x9 x16 base s k =>
  k (.mk .top .top x5 .top .top .top .top .top) s
noncomputable def S78r6 {R : Type} (call : Nat → List AV → M AV) : W78 → Nat → AS → (W78 → AS → Option R) → Option R := @W78.rec (fun _ => Nat → AS → (W78 → AS → Option R) → Option R) fun x0 x3 x4 x5 x7 x8 x9 x16 base s k =>
  bndP (binQ .add x8 ((.int .i64 1) : AV)) fun y0 =>
  k (.mk x0 x3 .top .top x7 y0 .top .top) s
noncomputable def S78b7 {R : Type} (call : Nat → List AV → M AV) (fuel : Nat) : SC W78 W78 R := sSeq (sReg 1 (S78r2 call)) (sSeq (sCond (@W78.rec (fun _ => AV) fun _ _ _ _ _ _ x9 _ => x9) (sSkip) (sExit 0)) (sSeq (sBlock 1 (sSeq (sReg 2 (S78r3 call)) (sSeq (sReg 6 (S78r4 call)) (sCond (@W78.rec (fun _ => AV) fun _ _ _ _ _ _ _ x16 => x16) (sSeq (sReg 2 (S78r5 call)) (sRet)) (sSkip))))) (sReg 2 (S78r6 call))))
noncomputable def S78r8 {R : Type} (call : Nat → List AV → M AV) : W78 → Nat → AS → (W78 → AS → Option R) → Option R := @W78.rec (fun _ => Nat → AS → (W78 → AS → Option R) → Option R) fun x0 x3 x4 x5 x7 x8 x9 x16 base s k =>
  k (.mk .top .top ((.int .i64 (-1)) : AV) .top .top .top .top .top) s
noncomputable def S78c {R : Type} (call : Nat → List AV → M AV) (fuel : Nat) : SC V78 W78 R := sSeq (sReg 2 (S78r0 call)) (sSeq (sSeq (sReg 3 (S78r1 call)) (sBlock 0 (sLoop fuel (S78b7 call fuel)))) (sSeq (sReg 1 (S78r8 call)) (sRet)))
noncomputable def S78e : Ex → W78 → AS → Option (AV × AS) := fun e w s => (@W78.rec (fun _ => Option (AV × AS)) fun _ _ x4 _ _ _ _ _ => @Ex.rec (fun _ => Option (AV × AS)) (some (x4, s)) (fun _ => none) (some (x4, s)) e) w
noncomputable def S78 (call : Nat → List AV → M AV) (fuel : Nat) (args : List AV) (s : AS) : Option (AV × AS) := match args with
  | [x0, x1] => S78c call fuel (.mk x0 x1) s S78e
  | _ => none
theorem S78_sim (call : Nat → List AV → M AV) (fuel : Nat) : Sim (R := AV × AS) call fuel mi78 mo78 A78.code (S78c call fuel) := by
  refine sim_seq (sim_reg (fun ⟨x0, x1⟩ _ _ _ => by kernel_rfl)) (sim_seq (sim_seq (sim_reg (fun ⟨x0, x3, x4, x5, x7, x8, x9, x16⟩ _ _ _ => by kernel_rfl)) (sim_block (sim_loop (sim_seq (sim_reg (fun ⟨x0, x3, x4, x5, x7, x8, x9, x16⟩ _ _ _ => by kernel_rfl)) (sim_seq (sim_cond (fun ⟨x0, x3, x4, x5, x7, x8, x9, x16⟩ => by kernel_rfl) (sim_skip) (sim_exit)) (sim_seq (sim_block (sim_seq (sim_reg (fun ⟨x0, x3, x4, x5, x7, x8, x9, x16⟩ _ _ _ => by kernel_rfl)) (sim_seq (sim_reg (fun ⟨x0, x3, x4, x5, x7, x8, x9, x16⟩ _ _ _ => by kernel_rfl)) (sim_cond (fun ⟨x0, x3, x4, x5, x7, x8, x9, x16⟩ => by kernel_rfl) (sim_seq (sim_reg (fun ⟨x0, x3, x4, x5, x7, x8, x9, x16⟩ _ _ _ => by kernel_rfl)) (sim_ret)) (sim_skip))))) (sim_reg (fun ⟨x0, x3, x4, x5, x7, x8, x9, x16⟩ _ _ _ => by kernel_rfl)))))))) (sim_seq (sim_reg (fun ⟨x0, x3, x4, x5, x7, x8, x9, x16⟩ _ _ _ => by kernel_rfl)) (sim_ret)))
theorem S78_ok (call : Nat → List AV → M AV) (fuel : Nat) (args : List AV) (s : AS) : afn call fuel A78 args s = S78 call fuel args s := by
  rcases args with _ | ⟨x0, _ | ⟨x1, _ | ⟨x2, r⟩⟩⟩
  · kernel_rfl
  · kernel_rfl
  · exact (afn_sim (S78_sim call fuel) (v := (.mk x0 x1)) (e2 := S78e) (by kernel_rfl) (by kernel_rfl) (fun e w s => by cases w; cases e <;> kernel_rfl)).trans (by kernel_rfl)
  · kernel_rfl
def A95 : AFn := { nargs := 3, ntmps := 51, res := [.tmp 6], code := .seq (.ops [⟨0, (some 5), none, .l (.box (.tmp 2)), []⟩, ⟨1, (some 6), none, .p (.mv (.const (.int .i64 0))), []⟩] 2 [0, 1, 5]) (.seq (.ops [⟨0, (some 14), none, .p (.mv (.tmp 0)), []⟩, ⟨1, (some 15), none, .p (.mv (.tmp 1)), []⟩, ⟨2, (some 16), none, .p (.fld 1 (.tmp 5)), []⟩, ⟨3, (some 17), none, .r (.load false 1 (.tmp 16)), []⟩, ⟨4, (some 18), none, .e (.call true 36 [.tmp 14, .tmp 15, .tmp 17]), []⟩, ⟨5, (some 13), none, .p (.mv (.tmp 18)), []⟩, ⟨6, (some 19), none, .p (.extract (.tmp 13) 0), []⟩, ⟨7, (some 20), none, .p (.extract (.tmp 13) 1), []⟩, ⟨8, (some 7), none, .l (.alloc [.str [], .nils, .nils]), []⟩, ⟨9, none, none, .e (.store (.tmp 7) (.tmp 19) 3), []⟩, ⟨10, (some 8), none, .p (.mv (.tmp 20)), []⟩] 11 [0, 5, 7, 8]) (.seq (.seq (.ops [⟨0, (some 21), none, .p (.mv (.tmp 8)), []⟩, ⟨1, (some 22), none, .p (.notb (.tmp 21)), []⟩] 2 [0, 5, 7, 22]) (.cond (.tmp 22) (.seq (.ops [⟨0, (some 6), none, .p (.mv (.const (.int .i64 12))), []⟩] 1 [6]) (.ret)) (.skip))) (.seq (.seq (.ops [⟨0, (some 23), none, .p (.fld 1 (.tmp 7)), []⟩, ⟨1, (some 24), none, .r (.load false 1 (.tmp 23)), []⟩, ⟨2, (some 25), none, .p (.lenS false (.tmp 24)), []⟩, ⟨3, (some 26), none, .p (.bin .eql (.tmp 25) (.const (.int .i64 0))), []⟩] 4 [0, 5, 7, 26]) (.cond (.tmp 26) (.seq (.ops [⟨0, (some 6), none, .p (.mv (.const (.int .i64 13))), []⟩] 1 [6]) (.ret)) (.skip))) (.seq (.seq (.ops [⟨0, (some 27), none, .p (.fld 1 (.tmp 7)), []⟩, ⟨1, (some 28), none, .r (.load false 1 (.tmp 27)), []⟩, ⟨2, (some 29), none, .p (.lenS false (.tmp 28)), []⟩, ⟨3, (some 30), none, .p (.mv (.const (.int .i64 0))), []⟩] 4 [0, 5, 28, 29, 30]) (.block 0 (.loop (.seq (.ops [⟨0, (some 31), none, .p (.bin .lss (.tmp 30) (.tmp 29)), []⟩] 1 [0, 5, 28, 29, 30, 31]) (.seq (.cond (.tmp 31) (.skip) (.exit 0)) (.seq (.block 1 (.seq (.ops [⟨0, (some 32), none, .p (.idx 3 (.tmp 28) (.tmp 30)), []⟩, ⟨1, (some 33), none, .r (.load true 3 (.tmp 32)), []⟩, ⟨2, (some 10), none, .l (.alloc [.str [], .str [], .str []]), []⟩, ⟨3, none, none, .e (.store (.tmp 10) (.tmp 33) 3), []⟩] 4 [0, 5, 10, 28, 29, 30]) (.seq (.ops [⟨0, (some 35), none, .p (.mv (.tmp 0)), []⟩, ⟨1, (some 36), none, .p (.fld 0 (.tmp 10)), []⟩, ⟨2, (some 37), none, .r (.load false 1 (.tmp 36)), []⟩, ⟨3, (some 38), none, .p (.fld 2 (.tmp 5)), []⟩, ⟨4, (some 39), none, .r (.load false 1 (.tmp 38)), []⟩, ⟨5, (some 40), none, .e (.call true 36 [.tmp 35, .tmp 37, .tmp 39]), []⟩, ⟨6, (some 34), none, .p (.mv (.tmp 40)), []⟩, ⟨7, (some 41), none, .p (.extract (.tmp 34) 0), []⟩, ⟨8, (some 42), none, .p (.extract (.tmp 34) 1), []⟩, ⟨9, (some 11), none, .l (.alloc [.str [], .nils, .nils]), []⟩, ⟨10, none, none, .e (.store (.tmp 11) (.tmp 41) 3), []⟩, ⟨11, (some 12), none, .p (.mv (.tmp 42)), []⟩] 12 [0, 5, 10, 12, 28, 29, 30]) (.seq (.ops [⟨0, (some 43), none, .p (.mv (.tmp 12)), []⟩, ⟨1, (some 44), none, .p (.notb (.tmp 43)), []⟩, ⟨2, (some 45), none, .p (.mv (.tmp 44)), []⟩, ⟨3, (some 46), (some (45, false)), .p (.fld 2 (.tmp 10)), []⟩, ⟨4, (some 47), (some (45, false)), .r (.load false 1 (.tmp 46)), []⟩, ⟨5, (some 48), (some (45, false)), .p (.bin .neq (.tmp 47) (.const (.str []))), []⟩, ⟨6, (some 49), none, .p (.pick (.tmp 45) (.const (.bool true)) (.tmp 48)), []⟩] 7 [0, 5, 28, 29, 30, 49]) (.cond (.tmp 49) (.seq (.ops [⟨0, (some 6), none, .p (.mv (.const (.int .i64 13))), []⟩] 1 [6]) (.ret)) (.skip)))))) (.ops [⟨0, (some 50), none, .p (.bin .add (.tmp 30) (.const (.int .i64 1))), []⟩, ⟨1, (some 30), none, .p (.mv (.tmp 50)), []⟩] 2 [0, 5, 28, 29, 30]))))))) (.seq (.ops [⟨0, (some 6), none, .p (.mv (.const (.int .i64 0))), []⟩] 1 [6]) (.ret)))))) }
def N95 : Notes := { note := fun _ => none, keep := fun | 13 => [6] | 12 => [0, 5, 28, 29, 30] | 11 => [6] | 10 => [0, 5, 28, 29, 30, 49] | 9 => [0, 5, 10, 12, 28, 29, 30] | 8 => [0, 5, 10, 28, 29, 30] | 7 => [0, 5, 28, 29, 30, 31] | 6 => [0, 5, 28, 29, 30] | 5 => [6] | 4 => [0, 5, 7, 26] | 3 => [6] | 2 => [0, 5, 7, 22] | 1 => [0, 5, 7, 8] | 0 => [0, 1, 5] | _ => [] }
theorem A95_ok : cFn Try.prog qf N95 Try.f95 = some A95 := by kernel_rfl
inductive W95 where
  | mk (x0 x1 x5 x6 x7 x8 x10 x12 x22 x26 x28 x29 x30 x31 x49 : AV)
inductive V95 where
  | mk (x0 x1 x2 : AV)
def mo95 : W95 → Fr := fun ⟨x0, x1, x5, x6, x7, x8, x10, x12, x22, x26, x28, x29, x30, x31, x49⟩ => [x0, x1, .top, .top, .top, x5, x6, x7, x8, .top, x10, .top, x12, .top, .top, .top, .top, .top, .top, .top, .top, .top, x22, .top, .top, .top, x26, .top, x28, x29, x30, x31, .top, .top, .top, .top, .top, .top, .top, .top, .top, .top, .top, .top, .top, .top, .top, .top, .top, x49, .top]
def mi95 : V95 → Fr := fun ⟨x0, x1, x2⟩ => [x0, x1, x2, .tup [], .tup [], .tup [], .tup [], .tup [], .tup [], .tup [], .tup [], .tup [], .tup [], .tup [], .tup [], .tup [], .tup [], .tup [], .tup [], .tup [], .tup [], .tup [], .tup [], .tup [], .tup [], .tup [], .tup [], .tup [], .tup [], .tup [], .tup [], .tup [], .tup [], .tup [], .tup [], .tup [], .tup [], .tup [], .tup [], .tup [], .tup [], .tup [], .tup [], .tup [], .tup [], .tup [], .tup [], .tup [], .tup [], .tup [], .tup []]
noncomputable def S95r0 {R : Type} (call : Nat → List AV → M AV) : V95 → Nat → AS → (W95 → AS → Option R) → Option R := @V95.rec (fun _ => Nat → AS → (W95 → AS → Option R) → Option R) fun x0 x1 x2 base s k =>
  bndO (newQ (base + 0) (boxB x2 (base + 0)) s) fun y0 s =>
  k (.mk x0 x1 y0 .top .top .top .top .top .top .top .top .top .top .top .top) s
noncomputable def S95r1 {R : Type} (call : Nat → List AV → M AV) : W95 → Nat → AS → (W95 → AS → Option R) → Option R := @W95.rec (fun _ => Nat → AS → (W95 → AS → Option R) → Option R) fun x0 x1 x5 x6 x7 x8 x10 x12 x22 x26 x28 x29 x30 x31 x49 base s k =>
  bndP (fldA 1 x5) fun y0 =>
  bndP (loadQ false 1 y0 s.h) fun y1 =>
  bndO (quietQ call 36 [x0, x1, y1] s) fun y2 s =>
  bndP (extrQ y2 0) fun y3 =>
  bndP (extrQ y2 1) fun y4 =>
  bndO (newQ (base + 8) (allocB [(.str []), .nils, .nils] (base + 8)) s) fun y5 s =>
  bndO (storeQ y5 y3 3 s) fun _ s =>
  k (.mk x0 .top x5 .top y5 y4 .top .top .top .top .top .top .top .top .top) s
noncomputable def S95r2 {R : Type} (call : Nat → List AV → M AV) : W95 → Nat → AS → (W95 → AS → Option R) → Option R := @W95.rec (fun _ => Nat → AS → (W95 → AS → Option R) → Option R) fun x0 x1 x5 x6 x7 x8 x10 x12 x22 x26 x28 x29 x30 x31 x49 base s k =>
  bndP (notA x8) fun y0 =>
  k (.mk x0 .top x5 .top x7 .top .top .top y0 .top .top .top .top .top .top) s
noncomputable def S95r3 {R : Type} (call : Nat → List AV → M AV) : W95 → Nat → AS → (W95 → AS → Option R) → Option R := @W95.rec (fun _ => Nat → AS → (W95 → AS → Option R) → Option R) fun x0 x1 x5 x6 x7 x8 x10 x12 x22 x26 x28 x29 x30 x31 x49 base s k =>
  k (.mk .top .top .top ((.int .i64 12) : AV) .top .top .top .top .top .top .top .top .top .top .top) s
noncomputable def S95r4 {R : Type} (call : Nat → List AV → M AV) : W95 → Nat → AS → (W95 → AS → Option R) → Option R := @W95.rec (fun _ => Nat → AS → (W95 → AS → Option R) → Option R) fun x0 x1 x5 x6 x7 x8 x10 x12 x22 x26 x28 x29 x30 x31 x49 base s k =>
  bndP (fldA 1 x7) fun y0 =>
  bndP (loadQ false 1 y0 s.h) fun y1 =>
  bndP (lenAQ false y1) fun y2 =>
  bndP (binQ .eql y2 ((.int .i64 0) : AV)) fun y3 =>
  k (.mk x0 .top x5 .top x7 .top .top .top .top y3 .top .top .top .top .top) s
noncomputable def S95r5 {R : Type} (call : Nat → List AV → M AV) : W95 → Nat → AS → (W95 → AS → Option R) → Option R := @W95.rec (fun _ => Nat → AS → (W95 → AS → Option R) → Option R) fun x0 x1 x5 x6 x7 x8 x10 x12 x22 x26 x28 x29 x30 x31 x49 base s k =>
  k (.mk .top .top .top ((.int .i64 13) : AV) .top .top .top .top .top .top .top .top .top .top .top) s
noncomputable def S95r6 {R : Type} (call : Nat → List AV → M AV) : W95 → Nat → AS → (W95 → AS → Option R) → Option R := @W95.rec (fun _ => Nat → AS → (W95 → AS → Option R) → Option R) fun x0 x1 x5 x6 x7 x8 x10 x12 x22 x26 x28 x29 x30 x31 x49 base s k =>
  bndP (fldA 1 x7) fun y0 =>
  bndP (loadQ false 1 y0 s.h) fun y1 =>
  bndP (lenAQ false y1) fun y2 =>
  k (.mk x0 .top x5 .top .top .top .top .top .top .top y1 y2 ((.int .i64 0) : AV) .top .top) s
noncomputable def S95r7 {R : Type} (call : Nat → List AV → M AV) : W95 → Nat → AS → (W95 → AS → Option R) → Option R := @W95.rec (fun _ => Nat → AS → (W95 → AS → Option R) → Option R) fun x0 x1 x5 x6 x7 x8 x10 x12 x22 x26 x28 x29 x30 x31 x49 base s k =>
  bndP (binQ .lss x30 x29) fun y0 =>
  k (.mk x0 .top x5 .top .top .top .top .top .top .top x28 x29 x30 y0 .top) s
noncomputable def S95r8 {R : Type} (call : Nat → List AV → M AV) : W95 → Nat → AS → (W95 → AS → Option R) → Option R := @W95.rec (fun _ => Nat → AS → (W95 → AS → Option R) → Option R) fun x0 x1 x5 x6 x7 x8 x10 x12 x22 x26 x28 x29 x30 x31 x49 base s k =>
  bndP (idxQ 3 x28 x30) fun y0 =>
  bndP (loadQ true 3 y0 s.h) fun y1 =>
  bndO (newQ (base + 2) (allocB [(.str []), (.str []), (.str [])] (base + 2)) s) fun y2 s =>
  bndO (storeQ y2 y1 3 s) fun _ s =>
  k (.mk x0 .top x5 .top .top .top y2 .top .top .top x28 x29 x30 .top .top) s
noncomputable def S95r9 {R : Type} (call : Nat → List AV → M AV) : W95 → Nat → AS → (W95 → AS → Option R) → Option R := @W95.rec (fun _ => Nat → AS → (W95 → AS → Option R) → Option R) fun x0 x1 x5 x6 x7 x8 x10 x12 x22 x26 x28 x29 x30 x31 x49 base s k =>
  bndP (fldA 0 x10) fun y0 =>
  bndP (loadQ false 1 y0 s.h) fun y1 =>
  bndP (fldA 2 x5) fun y2 =>
  bndP (loadQ false 1 y2 s.h) fun y3 =>
  bndO (quietQ call 36 [x0, y1, y3] s) fun y4 s =>
  bndP (extrQ y4 0) fun y5 =>
  bndP (extrQ y4 1) fun y6 =>
  bndO (newQ (base + 9) (allocB [(.str []), .nils, .nils] (base + 9)) s) fun y7 s =>
  bndO (storeQ y7 y5 3 s) fun _ s =>
  k (.mk x0 .top x5 .top .top .top x10 y6 .top .top x28 x29 x30 .top .top) s
noncomputable def S95r10 {R : Type} (call : Nat → List AV → M AV) : W95 → Nat → AS → (W95 → AS → Option R) → Option R := @W95.rec (fun _ => Nat → AS → (W95 → AS → Option R) → Option R) fun x0 x1 x5 x6 x7 x8 x10 x12 x22 x26 x28 x29 x30 x31 x49 base s k =>
  bndP (notA x12) fun y0 =>
  bndO (gd (wantG y0 false) (fun s => (pureO (fldA 2 x10) s)) s) fun y1 s =>
  bndO (gd (wantG y0 false) (fun s => (pureO (loadQ false 1 y1 s.h) s)) s) fun y2 s =>
  bndO (gd (wantG y0 false) (fun s => (pureO (binQ .neq y2 ((.str []) : AV)) s)) s) fun y3 s =>
  bndP (pickA y0 ((.bool true) : AV) y3) fun y4 =>
  k (.mk x0 .top x5 .top .top .top .top .top .top .top x28 x29 x30 .top y4) s
noncomputable def S95r11 {R : Type} (call : Nat → List AV → M AV) : W95 → Nat → AS → (W95 → AS → Option R) → Option R := @W95.rec (fun _ => Nat → AS → (W95 → AS → Option R) → Option R) fun x0 x1 x5 x6 x7 x8 x10 x12 x22 x26 x28 x29 x30 x31 x49 base s k =>
  k (.mk .top .top .top ((.int .i64 13) : AV) .top .top .top .top .top .top .top .top .top .top .top) s
noncomputable def S95r12 {R : Type} (call : Nat → List AV → M AV) : W95 → Nat → AS → (W95 → AS → Option R) → Option R := @W95.rec (fun _ => Nat → AS → (W95 → AS → Option R) → Option R) fun x0 x1 x5 x6 x7 x8 x10 x12 x22 x26 x28 x29 x30 x31 x49 base s k =>
  bndP (binQ .add x30 ((.int .i64 1) : AV)) fun y0 =>
  k (.mk x0 .top x5 .top .top .top .top .top .top .top x28 x29 y0 .top .top) s
noncomputable def S95b13 {R : Type} (call : Nat → List AV → M AV) (fuel : Nat) : SC W95 W95 R := sSeq (sReg 1 (S95r7 call)) (sSeq (sCond (@W95.rec (fun _ => AV) fun _ _ _ _ _ _ _ _ _ _ _ _ _ x31 _ => x31) (sSkip) (sExit 0)) (sSeq (sBlock 1 (sSeq (sReg 4 (S95r8 call)) (sSeq (sReg 12 (S95r9 call)) (sSeq (sReg 7 (S95r10 call)) (sCond (@W95.rec (fun _ => AV) fun _ _ _ _ _ _ _ _ _ _ _ _ _ _ x49 => x49) (sSeq (sReg 1 (S95r11 call)) (sRet)) (sSkip)))))) (sReg 2 (S95r12 call))))
noncomputable def S95r14 {R : Type} (call : Nat → List AV → M AV) : W95 → Nat → AS → (W95 → AS → Option R) → Option R := @W95.rec (fun _ => Nat → AS → (W95 → AS → Option R) → Option R) fun x0 x1 x5 x6 x7 x8 x10 x12 x22 x26 x28 x29 x30 x31 x49 base s k =>
  k (.mk .top .top .top ((.int .i64 0) : AV) .top .top .top .top .top .top .top .top .top .top .top) s
noncomputable def S95c {R : Type} (call : Nat → List AV → M AV) (fuel : Nat) : SC V95 W95 R := sSeq (sReg 2 (S95r0 call)) (sSeq (sReg 11 (S95r1 call)) (sSeq (sSeq (sReg 2 (S95r2 call)) (sCond (@W95.rec (fun _ => AV) fun _ _ _ _ _ _ _ _ x22 _ _ _ _ _ _ => x22) (sSeq (sReg 1 (S95r3 call)) (sRet)) (sSkip))) (sSeq (sSeq (sReg 4 (S95r4 call)) (sCond (@W95.rec (fun _ => AV) fun _ _ _ _ _ _ _ _ _ x26 _ _ _ _ _ => x26) (sSeq (sReg 1 (S95r5 call)) (sRet)) (sSkip))) (sSeq (sSeq (sReg 4 (S95r6 call)) (sBlock 0 (sLoop fuel (S95b13 call fuel)))) (sSeq (sReg 1 (S95r14 call)) (sRet))))))
noncomputable def S95e : Ex → W95 → AS → Option (AV × AS) := fun e w s => (@W95.rec (fun _ => Option (AV × AS)) fun _ _ _ x6 _ _ _ _ _ _ _ _ _ _ _ => @Ex.rec (fun _ => Option (AV × AS)) (some (x6, s)) (fun _ => none) (some (x6, s)) e) w
noncomputable def S95 (call : Nat → List AV → M AV) (fuel : Nat) (args : List AV) (s : AS) : Option (AV × AS) := match args with
  | [x0, x1, x2] => S95c call fuel (.mk x0 x1 x2) s S95e
  | _ => none
theorem S95_sim (call : Nat → List AV → M AV) (fuel : Nat) : Sim (R := AV × AS) call fuel mi95 mo95 A95.code (S95c call fuel) := by
  refine sim_seq (sim_reg (fun ⟨x0, x1, x2⟩ _ _ _ => by kernel_rfl)) (sim_seq (sim_reg (fun ⟨x0, x1, x5, x6, x7, x8, x10, x12, x22, x26, x28, x29, x30, x31, x49⟩ _ _ _ => by kernel_rfl)) (sim_seq (sim_seq (sim_reg (fun ⟨x0, x1, x5, x6, x7, x8, x10, x12, x22, x26, x28, x29, x30, x31, x49⟩ _ _ _ => by kernel_rfl)) (sim_cond (fun ⟨x0, x1, x5, x6, x7, x8, x10, x12, x22, x26, x28, x29, x30, x31, x49⟩ => by kernel_rfl) (sim_seq (sim_reg (fun ⟨x0, x1, x5, x6, x7, x8, x10, x12, x22, x26, x28, x29, x30, x31, x49⟩ _ _ _ => by kernel_rfl)) (sim_ret)) (sim_skip))) (sim_seq (sim_seq (sim_reg (fun ⟨x0, x1, x5, x6, x7, x8, x10, x12, x22, x26, x28, x29, x30, x31, x49⟩ _ _ _ => by kernel_rfl)) (sim_cond (fun ⟨x0, x1, x5, x6, x7, x8, x10, x12, x22, x26, x28, x29, x30, x31, x49⟩ => by kernel_rfl) (sim_seq (sim_reg (fun ⟨x0, x1, x5, x6, x7, x8, x10, x12, x22, x26, x28, x29, x30, x31, x49⟩ _ _ _ => by kernel_rfl)) (sim_ret)) (sim_skip))) (sim_seq (sim_seq (sim_reg (fun ⟨x0, x1, x5, x6, x7, x8, x10, x12, x22, x26, x28, x29, x30, x31, x49⟩ _ _ _ => by kernel_rfl)) (sim_block (sim_loop (sim_seq (sim_reg (fun ⟨x0, x1, x5, x6, x7, x8, x10, x12, x22, x26, x28, x29, x30, x31, x49⟩ _ _ _ => by kernel_rfl)) (sim_seq (sim_cond (fun ⟨x0, x1, x5, x6, x7, x8, x10, x12, x22, x26, x28, x29, x30, x31, x49⟩ => by kernel_rfl) (sim_skip) (sim_exit)) (sim_seq (sim_block (sim_seq (sim_reg (fun ⟨x0, x1, x5, x6, x7, x8, x10, x12, x22, x26, x28, x29, x30, x31, x49⟩ _ _ _ => by kernel_rfl)) (sim_seq (sim_reg (fun ⟨x0, x1, x5, x6, x7, x8, x10, x12, x22, x26, x28, x29, x30, x31, x49⟩ _ _ _ => by kernel_rfl)) (sim_seq (sim_reg (fun ⟨x0, x1, x5, x6, x7, x8, x10, x12, x22, x26, x28, x29, x30, x31, x49⟩ _ _ _ => by kernel_rfl)) (sim_cond (fun ⟨x0, x1, x5, x6, x7, x8, x10, x12, x22, x26, x28, x29, x30, x31, x49⟩ => by kernel_rfl) (sim_seq (sim_reg (fun ⟨x0, x1, x5, x6, x7, x8, x10, x12, x22, x26, x28, x29, x30, x31, x49⟩ _ _ _ => by kernel_rfl)) (sim_ret)) (sim_skip)))))) (sim_reg (fun ⟨x0, x1, x5, x6, x7, x8, x10, x12, x22, x26, x28, x29, x30, x31, x49⟩ _ _ _ => by kernel_rfl)))))))) (sim_seq (sim_reg (fun ⟨x0, x1, x5, x6, x7, x8, x10, x12, x22, x26, x28, x29, x30, x31, x49⟩ _ _ _ => by kernel_rfl)) (sim_ret))))))
theorem S95_ok (call : Nat → List AV → M AV) (fuel : Nat) (args : List AV) (s : AS) : afn call fuel A95 args s = S95 call fuel args s := by
  rcases args with _ | ⟨x0, _ | ⟨x1, _ | ⟨x2, _ | ⟨x3, r⟩⟩⟩⟩
  · kernel_rfl
  · kernel_rfl
  · kernel_rfl
  · exact (afn_sim (S95_sim call fuel) (v := (.mk x0 x1 x2)) (e2 := S95e) (by kernel_rfl) (by kernel_rfl) (fun e w s => by cases w; cases e <;> kernel_rfl)).trans (by kernel_rfl)
  · kernel_rfl
def A96 : AFn := { nargs := 2, ntmps := 42, res := [.tmp 4], code := .seq (.ops [⟨0, (some 3), none, .l (.box (.tmp 1)), []⟩, ⟨1, (some 4), none, .p (.mv (.const (.nils))), []⟩] 2 [0, 3]) (.seq (.ops [⟨0, (some 9), none, .p (.mv (.tmp 0)), []⟩, ⟨1, (some 10), none, .p (.nilchk (.tmp 9)), []⟩, ⟨2, (some 11), none, .p (.fld 1 (.tmp 10)), []⟩, ⟨3, (some 12), none, .r (.load false 1 (.tmp 11)), []⟩, ⟨4, (some 13), none, .r (.load true 2 (.tmp 3)), []⟩, ⟨5, (some 14), none, .r (.lookup (.agg [.str [], .nils, .nils]) false [true, true] (.tmp 12) (.tmp 13)), []⟩, ⟨6, (some 5), none, .l (.alloc [.str [], .nils, .nils]), []⟩, ⟨7, none, none, .e (.store (.tmp 5) (.tmp 14) 3), []⟩] 8 [0, 3, 5]) (.seq (.ops [⟨0, (some 15), none, .p (.mv (.tmp 0)), []⟩, ⟨1, (some 16), none, .p (.fld 0 (.tmp 3)), []⟩, ⟨2, (some 17), none, .r (.load false 1 (.tmp 16)), []⟩, ⟨3, (some 18), none, .p (.fld 2 (.tmp 5)), []⟩, ⟨4, (some 19), none, .r (.load false 1 (.tmp 18)), []⟩, ⟨5, (some 20), none, .e (.call false 112 [.tmp 15, .tmp 17, .tmp 19]), []⟩, ⟨6, (some 6), none, .p (.mv (.tmp 20)), []⟩] 7 [5, 6]) (.seq (.seq (.ops [⟨0, (some 21), none, .p (.fld 1 (.tmp 5)), []⟩, ⟨1, (some 22), none, .r (.load false 1 (.tmp 21)), []⟩, ⟨2, (some 23), none, .p (.lenS false (.tmp 22)), []⟩, ⟨3, (some 24), none, .p (.mv (.const (.int .i64 0))), []⟩] 4 [6, 22, 23, 24]) (.block 0 (.loop (.seq (.ops [⟨0, (some 25), none, .p (.bin .lss (.tmp 24) (.tmp 23)), []⟩] 1 [6, 22, 23, 24, 25]) (.seq (.cond (.tmp 25) (.skip) (.exit 0)) (.seq (.block 1 (.seq (.ops [⟨0, (some 26), none, .p (.idx 3 (.tmp 22) (.tmp 24)), []⟩, ⟨1, (some 27), none, .r (.load true 3 (.tmp 26)), []⟩, ⟨2, (some 8), none, .l (.alloc [.str [], .str [], .str []]), []⟩, ⟨3, none, none, .e (.store (.tmp 8) (.tmp 27) 3), []⟩] 4 [6, 8, 22, 23, 24]) (.seq (.ops [⟨0, (some 28), none, .p (.fld 2 (.tmp 8)), []⟩, ⟨1, (some 29), none, .r (.load false 1 (.tmp 28)), []⟩, ⟨2, (some 30), none, .p (.bin .neq (.tmp 29) (.const (.str []))), []⟩] 3 [6, 8, 22, 23, 24, 30]) (.cond (.tmp 30) (.ops [⟨0, (some 31), none, .p (.mv (.tmp 6)), []⟩, ⟨1, (some 32), none, .p (.fld 0 (.tmp 8)), []⟩, ⟨2, (some 33), none, .r (.load false 1 (.tmp 32)), []⟩, ⟨3, (some 34), none, .p (.fld 2 (.tmp 8)), []⟩, ⟨4, (some 35), none, .r (.load false 1 (.tmp 34)), []⟩, ⟨5, (some 36), none, .p (.build [.str [], .str []] [(0, 1, .tmp 33), (1, 1, .tmp 35)]), []⟩, ⟨6, (some 37), none, .p (.build [.str [], .str [], .int .i64 0] [(0, 2, .tmp 36), (2, 1, .const (.int .i64 0))]), []⟩, ⟨7, (some 38), none, .k { z := [.str [], .str [], .int .i64 0], len := 1, parts := [(0, .tmp 37)] }, []⟩, ⟨8, (some 39), none, .e (.append 3 40 (.tmp 31) (.tmp 38)), []⟩, ⟨9, (some 6), none, .p (.mv (.tmp 39)), []⟩] 10 [6, 22, 23, 24]) (.skip))))) (.ops [⟨0, (some 40), none, .p (.bin .add (.tmp 24) (.const (.int .i64 1))), []⟩, ⟨1, (some 24), none, .p (.mv (.tmp 40)), []⟩] 2 [6, 22, 23, 24]))))))) (.seq (.ops [⟨0, (some 41), none, .p (.mv (.tmp 6)), []⟩, ⟨1, (some 4), none, .p (.mv (.tmp 41)), []⟩] 2 [4]) (.ret))))) }
def N96 : Notes := { note := fun | 1 => some ⟨[0, 1, 2, 3, 4, 5, 6, 7], [0, 1, 3, 7, 0, 31, 0, 127], [[], [], [], [], [], [], [], []]⟩ | _ => none, keep := fun | 9 => [4] | 8 => [6, 22, 23, 24] | 7 => [6, 22, 23, 24] | 6 => [6, 8, 22, 23, 24, 30] | 5 => [6, 8, 22, 23, 24] | 4 => [6, 22, 23, 24, 25] | 3 => [6, 22, 23, 24] | 2 => [5, 6] | 1 => [0, 3, 5] | 0 => [0, 3] | _ => [] }
theorem A96_ok : cFn Try.prog qf N96 Try.f96 = some A96 := by kernel_rfl
inductive W96 where
  | mk (x0 x3 x4 x5 x6 x8 x22 x23 x24 x25 x30 : AV)
inductive V96 where
  | mk (x0 x1 : AV)
def mo96 : W96 → Fr := fun ⟨x0, x3, x4, x5, x6, x8, x22, x23, x24, x25, x30⟩ => [x0, .top, .top, x3, x4, x5, x6, .top, x8, .top, .top, .top, .top, .top, .top, .top, .top, .top, .top, .top, .top, .top, x22, x23, x24, x25, .top, .top, .top, .top, x30, .top, .top, .top, .top, .top, .top, .top, .top, .top, .top, .top]
def mi96 : V96 → Fr := fun ⟨x0, x1⟩ => [x0, x1, .tup [], .tup [], .tup [], .tup [], .tup [], .tup [], .tup [], .tup [], .tup [], .tup [], .tup [], .tup [], .tup [], .tup [], .tup [], .tup [], .tup [], .tup [], .tup [], .tup [], .tup [], .tup [], .tup [], .tup [], .tup [], .tup [], .tup [], .tup [], .tup [], .tup [], .tup [], .tup [], .tup [], .tup [], .tup [], .tup [], .tup [], .tup [], .tup [], .tup []]
noncomputable def S96r0 {R : Type} (call : Nat → List AV → M AV) : V96 → Nat → AS → (W96 → AS → Option R) → Option R := @V96.rec (fun _ => Nat → AS → (W96 → AS → Option R) → Option R) fun x0 x1 base s k =>
  bndO (newQ (base + 0) (boxB x1 (base + 0)) s) fun y0 s =>
  k (.mk x0 y0 .top .top .top .top .top .top .top .top .top) s
noncomputable def S96r1 {R : Type} (call : Nat → List AV → M AV) : W96 → Nat → AS → (W96 → AS → Option R) → Option R := @W96.rec (fun _ => Nat → AS → (W96 → AS → Option R) → Option R) fun x0 x3 x4 x5 x6 x8 x22 x23 x24 x25 x30 base s k =>
  bndP (nilchkA x0) fun y0 =>
  bndP (fldA 1 y0) fun y1 =>
  bndP (loadQ false 1 y1 s.h) fun y2 =>
  bndP (loadQ true 2 x3 s.h) fun y3 =>
  bndP (lookupA (.agg [(.str []), .nils, .nils]) false [true, true] y2 y3 s.h) fun y4 =>
  bndO (newQ (base + 6) (allocB [(.str []), .nils, .nils] (base + 6)) s) fun y5 s =>
  bndO (storeQ y5 y4 3 s) fun _ s =>
  k (.mk x0 x3 .top y5 .top .top .top .top .top .top .top) s
noncomputable def S96r2 {R : Type} (call : Nat → List AV → M AV) : W96 → Nat → AS → (W96 → AS → Option R) → Option R := @W96.rec (fun _ => Nat → AS → (W96 → AS → Option R) → Option R) fun x0 x3 x4 x5 x6 x8 x22 x23 x24 x25 x30 base s k =>
  bndP (fldA 0 x3) fun y0 =>
  bndP (loadQ false 1 y0 s.h) fun y1 =>
  bndP (fldA 2 x5) fun y2 =>
  bndP (loadQ false 1 y2 s.h) fun y3 =>
  bndO (call 112 [x0, y1, y3] s) fun y4 s =>
  k (.mk .top .top .top x5 y4 .top .top .top .top .top .top) s
noncomputable def S96r3 {R : Type} (call : Nat → List AV → M AV) : W96 → Nat → AS → (W96 → AS → Option R) → Option R := @W96.rec (fun _ => Nat → AS → (W96 → AS → Option R) → Option R) fun x0 x3 x4 x5 x6 x8 x22 x23 x24 x25 x30 base s k =>
  bndP (fldA 1 x5) fun y0 =>
  bndP (loadQ false 1 y0 s.h) fun y1 =>
  bndP (lenAQ false y1) fun y2 =>
  k (.mk .top .top .top .top x6 .top y1 y2 ((.int .i64 0) : AV) .top .top) s
noncomputable def S96r4 {R : Type} (call : Nat → List AV → M AV) : W96 → Nat → AS → (W96 → AS → Option R) → Option R := @W96.rec (fun _ => Nat → AS → (W96 → AS → Option R) → Option R) fun x0 x3 x4 x5 x6 x8 x22 x23 x24 x25 x30 base s k =>
  bndP (binQ .lss x24 x23) fun y0 =>
  k (.mk .top .top .top .top x6 .top x22 x23 x24 y0 .top) s
noncomputable def S96r5 {R : Type} (call : Nat → List AV → M AV) : W96 → Nat → AS → (W96 → AS → Option R) → Option R := @W96.rec (fun _ => Nat → AS → (W96 → AS → Option R) → Option R) fun x0 x3 x4 x5 x6 x8 x22 x23 x24 x25 x30 base s k =>
  bndP (idxQ 3 x22 x24) fun y0 =>
  bndP (loadQ true 3 y0 s.h) fun y1 =>
  bndO (newQ (base + 2) (allocB [(.str []), (.str []), (.str [])] (base + 2)) s) fun y2 s =>
  bndO (storeQ y2 y1 3 s) fun _ s =>
  k (.mk .top .top .top .top x6 y2 x22 x23 x24 .top .top) s
noncomputable def S96r6 {R : Type} (call : Nat → List AV → M AV) : W96 → Nat → AS → (W96 → AS → Option R) → Option R := @W96.rec (fun _ => Nat → AS → (W96 → AS → Option R) → Option R) fun x0 x3 x4 x5 x6 x8 x22 x23 x24 x25 x30 base s k =>
  bndP (fldA 2 x8) fun y0 =>
  bndP (loadQ false 1 y0 s.h) fun y1 =>
  bndP (binQ .neq y1 ((.str []) : AV)) fun y2 =>
  k (.mk .top .top .top .top x6 x8 x22 x23 x24 .top y2) s
noncomputable def S96r7 {R : Type} (call : Nat → List AV → M AV) : W96 → Nat → AS → (W96 → AS → Option R) → Option R := @W96.rec (fun _ => Nat → AS → (W96 → AS → Option R) → Option R) fun x0 x3 x4 x5 x6 x8 x22 x23 x24 x25 x30 base s k =>
  bndP (fldA 0 x8) fun y0 =>
  bndP (loadQ false 1 y0 s.h) fun y1 =>
  bndP (fldA 2 x8) fun y2 =>
  bndP (loadQ false 1 y2 s.h) fun y3 =>
  bndP (buildA [(.str []), (.str [])] [(0, 1, y1), (1, 1, y3)]) fun y4 =>
  bndP (buildA [(.str []), (.str []), (.int .i64 0)] [(0, 2, y4), (2, 1, ((.int .i64 0) : AV))]) fun y5 =>
  bndP (rowsA [(.str []), (.str []), (.int .i64 0)] 1 [(0, y5)]) fun y6 =>
  bndO (appQ (base + 8) 3 40 x6 y6 s) fun y7 s =>
  k (.mk .top .top .top .top y7 .top x22 x23 x24 .top .top) s
noncomputable def S96r8 {R : Type} (call : Nat → List AV → M AV) : W96 → Nat → AS → (W96 → AS → Option R) → Option R := @W96.rec (fun _ => Nat → AS → (W96 → AS → Option R) → Option R) fun x0 x3 x4 x5 x6 x8 x22 x23 x24 x25 x30 base s k =>
  bndP (binQ .add x24 ((.int .i64 1) : AV)) fun y0 =>
  k (.mk .top .top .top .top x6 .top x22 x23 y0 .top .top) s
noncomputable def S96b9 {R : Type} (call : Nat → List AV → M AV) (fuel : Nat) : SC W96 W96 R := sSeq (sReg 1 (S96r4 call)) (sSeq (sCond (@W96.rec (fun _ => AV) fun _ _ _ _ _ _ _ _ _ x25 _ => x25) (sSkip) (sExit 0)) (sSeq (sBlock 1 (sSeq (sReg 4 (S96r5 call)) (sSeq (sReg 3 (S96r6 call)) (sCond (@W96.rec (fun _ => AV) fun _ _ _ _ _ _ _ _ _ _ x30 => x30) (sReg 10 (S96r7 call)) (sSkip))))) (sReg 2 (S96r8 call))))
noncomputable def S96r10 {R : Type} (call : Nat → List AV → M AV) : W96 → Nat → AS → (W96 → AS → Option R) → Option R := @W96.rec (fun _ => Nat → AS → (W96 → AS → Option R) → Option R) fun x0 x3 x4 x5 x6 x8 x22 x23 x24 x25 x30 base s k =>
  k (.mk .top .top x6 .top .top .top .top .top .top .top .top) s
noncomputable def S96c {R : Type} (call : Nat → List AV → M AV) (fuel : Nat) : SC V96 W96 R := sSeq (sReg 2 (S96r0 call)) (sSeq (sReg 8 (S96r1 call)) (sSeq (sReg 7 (S96r2 call)) (sSeq (sSeq (sReg 4 (S96r3 call)) (sBlock 0 (sLoop fuel (S96b9 call fuel)))) (sSeq (sReg 2 (S96r10 call)) (sRet)))))
noncomputable def S96e : Ex → W96 → AS → Option (AV × AS) := fun e w s => (@W96.rec (fun _ => Option (AV × AS)) fun _ _ x4 _ _ _ _ _ _ _ _ => @Ex.rec (fun _ => Option (AV × AS)) (some (x4, s)) (fun _ => none) (some (x4, s)) e) w
noncomputable def S96 (call : Nat → List AV → M AV) (fuel : Nat) (args : List AV) (s : AS) : Option (AV × AS) := match args with
  | [x0, x1] => S96c call fuel (.mk x0 x1) s S96e
  | _ => none
theorem S96_sim (call : Nat → List AV → M AV) (fuel : Nat) : Sim (R := AV × AS) call fuel mi96 mo96 A96.code (S96c call fuel) := by
  refine sim_seq (sim_reg (fun ⟨x0, x1⟩ _ _ _ => by kernel_rfl)) (sim_seq (sim_reg (fun ⟨x0, x3, x4, x5, x6, x8, x22, x23, x24, x25, x30⟩ _ _ _ => by kernel_rfl)) (sim_seq (sim_reg (fun ⟨x0, x3, x4, x5, x6, x8, x22, x23, x24, x25, x30⟩ _ _ _ => by kernel_rfl)) (sim_seq (sim_seq (sim_reg (fun ⟨x0, x3, x4, x5, x6, x8, x22, x23, x24, x25, x30⟩ _ _ _ => by kernel_rfl)) (sim_block (sim_loop (sim_seq (sim_reg (fun ⟨x0, x3, x4, x5, x6, x8, x22, x23, x24, x25, x30⟩ _ _ _ => by kernel_rfl)) (sim_seq (sim_cond (fun ⟨x0, x3, x4, x5, x6, x8, x22, x23, x24, x25, x30⟩ => by kernel_rfl) (sim_skip) (sim_exit)) (sim_seq (sim_block (sim_seq (sim_reg (fun ⟨x0, x3, x4, x5, x6, x8, x22, x23, x24, x25, x30⟩ _ _ _ => by kernel_rfl)) (sim_seq (sim_reg (fun ⟨x0, x3, x4, x5, x6, x8, x22, x23, x24, x25, x30⟩ _ _ _ => by kernel_rfl)) (sim_cond (fun ⟨x0, x3, x4, x5, x6, x8, x22, x23, x24, x25, x30⟩ => by kernel_rfl) (sim_reg (fun ⟨x0, x3, x4, x5, x6, x8, x22, x23, x24, x25, x30⟩ _ _ _ => by kernel_rfl)) (sim_skip))))) (sim_reg (fun ⟨x0, x3, x4, x5, x6, x8, x22, x23, x24, x25, x30⟩ _ _ _ => by kernel_rfl)))))))) (sim_seq (sim_reg (fun ⟨x0, x3, x4, x5, x6, x8, x22, x23, x24, x25, x30⟩ _ _ _ => by kernel_rfl)) (sim_ret)))))
theorem S96_ok (call : Nat → List AV → M AV) (fuel : Nat) (args : List AV) (s : AS) : afn call fuel A96 args s = S96 call fuel args s := by
  rcases args with _ | ⟨x0, _ | ⟨x1, _ | ⟨x2, r⟩⟩⟩
  · kernel_rfl
  · kernel_rfl
  · exact (afn_sim (S96_sim call fuel) (v := (.mk x0 x1)) (e2 := S96e) (by kernel_rfl) (by kernel_rfl) (fun e w s => by cases w; cases e <;> kernel_rfl)).trans (by kernel_rfl)
  · kernel_rfl
def A97 : AFn := { nargs := 1, ntmps := 21, res := [.tmp 2], code := .seq (.ops [⟨0, (some 2), none, .p (.mv (.const (.bool false))), []⟩] 1 [0]) (.seq (.ops [⟨0, (some 3), none, .p (.mv (.tmp 0)), []⟩, ⟨1, (some 4), none, .p (.bin .geq (.tmp 3) (.const (.int .u8 97))), []⟩, ⟨2, (some 5), none, .p (.mv (.tmp 4)), []⟩, ⟨3, (some 6), (some (5, true)), .p (.mv (.tmp 0)), []⟩, ⟨4, (some 7), (some (5, true)), .p (.bin .leq (.tmp 6) (.const (.int .u8 122))), []⟩, ⟨5, (some 8), none, .p (.pick (.tmp 5) (.tmp 7) (.const (.bool false))), []⟩, ⟨6, (some 9), none, .p (.mv (.tmp 8)), []⟩, ⟨7, (some 10), (some (9, false)), .p (.mv (.tmp 0)), []⟩, ⟨8, (some 11), (some (9, false)), .p (.bin .geq (.tmp 10) (.const (.int .u8 48))), []⟩, ⟨9, (some 12), (some (9, false)), .p (.mv (.tmp 11)), []⟩, ⟨10, (some 13), (some (12, true)), .p (.mv (.tmp 0)), []⟩, ⟨11, (some 14), (some (12, true)), .p (.bin .leq (.tmp 13) (.const (.int .u8 57))), []⟩, ⟨12, (some 15), (some (9, false)), .p (.pick (.tmp 12) (.tmp 14) (.const (.bool false))), []⟩, ⟨13, (some 16), none, .p (.pick (.tmp 9) (.const (.bool true)) (.tmp 15)), []⟩, ⟨14, (some 17), none, .p (.mv (.tmp 16)), []⟩, ⟨15, (some 18), (some (17, false)), .p (.mv (.tmp 0)), []⟩, ⟨16, (some 19), (some (17, false)), .p (.bin .eql (.tmp 18) (.const (.int .u8 95))), []⟩, ⟨17, (some 20), none, .p (.pick (.tmp 17) (.const (.bool true)) (.tmp 19)), []⟩, ⟨18, (some 2), none, .p (.mv (.tmp 20)), []⟩] 19 [2]) (.ret)) }
def N97 : Notes := { note := fun _ => none, keep := fun | 1 => [2] | 0 => [0] | _ => [] }
theorem A97_ok : cFn Try.prog qf N97 Try.f97 = some A97 := by kernel_rfl
inductive W97 where
  | mk (x0 x2 : AV)
abbrev V97 := AV
def mo97 : W97 → Fr := fun ⟨x0, x2⟩ => [x0, .top, x2, .top, .top, .top, .top, .top, .top, .top, .top, .top, .top, .top, .top, .top, .top, .top, .top, .top, .top]
def mi97 : V97 → Fr := fun x0 => [x0, .tup [], .tup [], .tup [], .tup [], .tup [], .tup [], .tup [], .tup [], .tup [], .tup [], .tup [], .tup [], .tup [], .tup [], .tup [], .tup [], .tup [], .tup [], .tup [], .tup []]
noncomputable def S97r0 {R : Type} (call : Nat → List AV → M AV) : V97 → Nat → AS → (W97 → AS → Option R) → Option R := fun x0 base s k =>
  k (.mk x0 .top) s
noncomputable def S97r1 {R : Type} (call : Nat → List AV → M AV) : W97 → Nat → AS → (W97 → AS → Option R) → Option R := @W97.rec (fun _ => Nat → AS → (W97 → AS → Option R) → Option R) fun x0 x2 base s k =>
  bndP (binQ .geq x0 ((.int .u8 97) : AV)) fun y0 =>
  bndO (gd (wantG y0 true) (fun s => (pureO (some x0) s)) s) fun y1 s =>
  bndO (gd (wantG y0 true) (fun s => (pureO (binQ .leq y1 ((.int .u8 122) : AV)) s)) s) fun y2 s =>
  bndP (pickA y0 y2 ((.bool false) : AV)) fun y3 =>
  bndO (gd (wantG y3 false) (fun s => (pureO (some x0) s)) s) fun y4 s =>
  bndO (gd (wantG y3 false) (fun s => (pureO (binQ .geq y4 ((.int .u8 48) : AV)) s)) s) fun y5 s =>
  bndO (gd (wantG y3 false) (fun s => (pureO (some y5) s)) s) fun y6 s =>
  bndO (gd (wantG y6 true) (fun s => (pureO (some x0) s)) s) fun y7 s =>
  bndO (gd (wantG y6 true) (fun s => (pureO (binQ .leq y7 ((.int .u8 57) : AV)) s)) s) fun y8 s =>
  bndO (gd (wantG y3 false) (fun s => (pureO (pickA y6 y8 ((.bool false) : AV)) s)) s) fun y9 s =>
  bndP (pickA y3 ((.bool true) : AV) y9) fun y10 =>
  bndO (gd (wantG y10 false) (fun s => (pureO (some x0) s)) s) fun y11 s =>
  bndO (gd (wantG y10 false) (fun s => (pureO (binQ .eql y11 ((.int .u8 95) : AV)) s)) s) fun y12 s =>
  bndP (pickA y10 ((.bool true) : AV) y12) fun y13 =>
  k (.mk .top y13) s
noncomputable def S97c {R : Type} (call : Nat → List AV → M AV) (fuel : Nat) : SC V97 W97 R := sSeq (sReg 1 (S97r0 call)) (sSeq (sReg 19 (S97r1 call)) (sRet))
noncomputable def S97e : Ex → W97 → AS → Option (AV × AS) := fun e w s => (@W97.rec (fun _ => Option (AV × AS)) fun _ x2 => @Ex.rec (fun _ => Option (AV × AS)) (some (x2, s)) (fun _ => none) (some (x2, s)) e) w
noncomputable def S97 (call : Nat → List AV → M AV) (fuel : Nat) (args : List AV) (s : AS) : Option (AV × AS) := match args with
  | [x0] => S97c call fuel x0 s S97e
  | _ => none
theorem S97_sim (call : Nat → List AV → M AV) (fuel : Nat) : Sim (R := AV × AS) call fuel mi97 mo97 A97.code (S97c call fuel) := by
  refine sim_seq (sim_reg (fun x0 _ _ _ => by kernel_rfl)) (sim_seq (sim_reg (fun ⟨x0, x2⟩ _ _ _ => by kernel_rfl)) (sim_ret))
theorem S97_ok (call : Nat → List AV → M AV) (fuel : Nat) (args : List AV) (s : AS) : afn call fuel A97 args s = S97 call fuel args s := by
  rcases args with _ | ⟨x0, _ | ⟨x1, r⟩⟩
  · kernel_rfl
  · exact (afn_sim (S97_sim call fuel) (v := x0) (e2 := S97e) (by kernel_rfl) (by kernel_rfl) (fun e w s => by cases w; cases e <;> kernel_rfl)).trans (by kernel_rfl)
  · kernel_rfl
def A98 : AFn := { nargs := 3, ntmps := 21, res := [.tmp 6], code := .seq (.ops [⟨0, (some 6), none, .p (.mv (.const (.int .i64 0))), []⟩] 1 [0, 1, 2]) (.seq (.seq (.ops [⟨0, (some 8), none, .p (.mv (.tmp 2)), []⟩, ⟨1, (some 7), none, .p (.mv (.tmp 8)), []⟩] 2 [0, 1, 7]) (.block 0 (.loop (.seq (.seq (.ops [⟨0, (some 9), none, .p (.mv (.tmp 7)), []⟩, ⟨1, (some 10), none, .p (.mv (.tmp 0)), []⟩, ⟨2, (some 11), none, .p (.lenS true (.tmp 10)), []⟩, ⟨3, (some 12), none, .p (.bin .lss (.tmp 9) (.tmp 11)), []⟩] 4 [0, 1, 7, 12]) (.cond (.tmp 12) (.skip) (.exit 0))) (.seq (.block 1 (.seq (.ops [⟨0, (some 15), none, .p (.mv (.tmp 0)), []⟩, ⟨1, (some 16), none, .p (.mv (.tmp 7)), []⟩, ⟨2, (some 17), none, .p (.idxs (.tmp 15) (.tmp 16)), []⟩, ⟨3, (some 18), none, .p (.mv (.tmp 1)), []⟩, ⟨4, (some 19), none, .p (.bin .eql (.tmp 17) (.tmp 18)), []⟩] 5 [0, 1, 7, 19]) (.cond (.tmp 19) (.seq (.ops [⟨0, (some 20), none, .p (.mv (.tmp 7)), []⟩, ⟨1, (some 6), none, .p (.mv (.tmp 20)), []⟩] 2 [6]) (.ret)) (.skip)))) (.ops [⟨0, (some 13), none, .p (.mv (.tmp 7)), []⟩, ⟨1, (some 14), none, .p (.bin .add (.tmp 13) (.const (.int .i64 1))), []⟩, ⟨2, (some 7), none, .p (.mv (.tmp 14)), []⟩] 3 [0, 1, 7])))))) (.seq (.ops [⟨0, (some 6), none, .p (.mv (.const (.int .i64 (-1)))), []⟩] 1 [6]) (.ret))) }
def N98 : Notes := { note := fun _ => none, keep := fun | 6 => [6] | 3 => [0, 1, 7] | 5 => [6] | 4 => [0, 1, 7, 19] | 2 => [0, 1, 7, 12] | 1 => [0, 1, 7] | 0 => [0, 1, 2] | _ => [] }
theorem A98_ok : cFn Try.prog qf N98 Try.f98 = some A98 := by kernel_rfl
inductive W98 where
  | mk (x0 x1 x2 x6 x7 x12 x19 : AV)
inductive V98 where
  | mk (x0 x1 x2 : AV)
def mo98 : W98 → Fr := fun ⟨x0, x1, x2, x6, x7, x12, x19⟩ => [x0, x1, x2, .top, .top, .top, x6, x7, .top, .top, .top, .top, x12, .top, .top, .top, .top, .top, .top, x19, .top]
def mi98 : V98 → Fr := fun ⟨x0, x1, x2⟩ => [x0, x1, x2, .tup [], .tup [], .tup [], .tup [], .tup [], .tup [], .tup [], .tup [], .tup [], .tup [], .tup [], .tup [], .tup [], .tup [], .tup [], .tup [], .tup [], .tup []]
noncomputable def S98r0 {R : Type} (call : Nat → List AV → M AV) : V98 → Nat → AS → (W98 → AS → Option R) → Option R := @V98.rec (fun _ => Nat → AS → (W98 → AS → Option R) → Option R) fun x0 x1 x2 base s k =>
  k (.mk x0 x1 x2 .top .top .top .top) s
noncomputable def S98r1 {R : Type} (call : Nat → List AV → M AV) : W98 → Nat → AS → (W98 → AS → Option R) → Option R := @W98.rec (fun _ => Nat → AS → (W98 → AS → Option R) → Option R) fun x0 x1 x2 x6 x7 x12 x19 base s k =>
  k (.mk x0 x1 .top .top x2 .top .top) s
noncomputable def S98r2 {R : Type} (call : Nat → List AV → M AV) : W98 → Nat → AS → (W98 → AS → Option R) → Option R := @W98.rec (fun _ => Nat → AS → (W98 → AS → Option R) → Option R) fun x0 x1 x2 x6 x7 x12 x19 base s k =>
  bndP (lenAQ true x0) fun y0 =>
  bndP (binQ .lss x7 y0) fun y1 =>
  k (.mk x0 x1 .top .top x7 y1 .top) s
noncomputable def S98r3 {R : Type} (call : Nat → List AV → M AV) : W98 → Nat → AS → (W98 → AS → Option R) → Option R := @W98.rec (fun _ => Nat → AS → (W98 → AS → Option R) → Option R) fun x0 x1 x2 x6 x7 x12 x19 base s k =>
  bndP (idxsQ x0 x7) fun y0 =>
  bndP (binQ .eql y0 x1) fun y1 =>
  k (.mk x0 x1 .top .top x7 .top y1) s
noncomputable def S98r4 {R : Type} (call : Nat → List AV → M AV) : W98 → Nat → AS → (W98 → AS → Option R) → Option R := @W98.rec (fun _ => Nat → AS → (W98 → AS → Option R) → Option R) fun x0 x1 x2 x6 x7 x12 x19 base s k =>
  k (.mk .top .top .top x7 .top .top .top) s
noncomputable def S98r5 {R : Type} (call : Nat → List AV → M AV) : W98 → Nat → AS → (W98 → AS → Option R) → Option R := @W98.rec (fun _ => Nat → AS → (W98 → AS → Option R) → Option R) fun x0 x1 x2 x6 x7 x12 x19 base s k =>
  bndP (binQ .add x7 ((.int .i64 1) : AV)) fun y0 =>
  k (.mk x0 x1 .top .top y0 .top .top) s
noncomputable def S98b6 {R : Type} (call : Nat → List AV → M AV) (fuel : Nat) : SC W98 W98 R := sSeq (sSeq (sReg 4 (S98r2 call)) (sCond (@W98.rec (fun _ => AV) fun _ _ _ _ _ x12 _ => x12) (sSkip) (sExit 0))) (sSeq (sBlock 1 (sSeq (sReg 5 (S98r3 call)) (sCond (@W98.rec (fun _ => AV) fun _ _ _ _ _ _ x19 => x19) (sSeq (sReg 2 (S98r4 call)) (sRet)) (sSkip)))) (sReg 3 (S98r5 call)))
noncomputable def S98r7 {R : Type} (call : Nat → List AV → M AV) : W98 → Nat → AS → (W98 → AS → Option R) → Option R := @W98.rec (fun _ => Nat → AS → (W98 → AS → Option R) → Option R) fun x0 x1 x2 x6 x7 x12 x19 base s k =>
  k (.mk .top .top .top ((.int .i64 (-1)) : AV) .top .top .top) s
noncomputable def S98c {R : Type} (call : Nat → List AV → M AV) (fuel : Nat) : SC V98 W98 R := sSeq (sReg 1 (S98r0 call)) (sSeq (sSeq (sReg 2 (S98r1 call)) (sBlock 0 (sLoop fuel (S98b6 call fuel)))) (sSeq (sReg 1 (S98r7 call)) (sRet)))
noncomputable def S98e : Ex → W98 → AS → Option (AV × AS) := fun e w s => (@W98.rec (fun _ => Option (AV × AS)) fun _ _ _ x6 _ _ _ => @Ex.rec (fun _ => Option (AV × AS)) (some (x6, s)) (fun _ => none) (some (x6, s)) e) w
noncomputable def S98 (call : Nat → List AV → M AV) (fuel : Nat) (args : List AV) (s : AS) : Option (AV × AS) := match args with
  | [x0, x1, x2] => S98c call fuel (.mk x0 x1 x2) s S98e
  | _ => none
theorem S98_sim (call : Nat → List AV → M AV) (fuel : Nat) : Sim (R := AV × AS) call fuel mi98 mo98 A98.code (S98c call fuel) := by
  refine sim_seq (sim_reg (fun ⟨x0, x1, x2⟩ _ _ _ => by kernel_rfl)) (sim_seq (sim_seq (sim_reg (fun ⟨x0, x1, x2, x6, x7, x12, x19⟩ _ _ _ => by kernel_rfl)) (sim_block (sim_loop (sim_seq (sim_seq (sim_reg (fun ⟨x0, x1, x2, x6, x7, x12, x19⟩ _ _ _ => by kernel_rfl)) (sim_cond (fun ⟨x0, x1, x2, x6, x7, x12, x19⟩ => by kernel_rfl) (sim_skip) (sim_exit))) (sim_seq (sim_block (sim_seq (sim_reg (fun ⟨x0, x1, x2, x6, x7, x12, x19⟩ _ _ _ => by kernel_rfl)) (sim_cond (fun ⟨x0, x1, x2, x6, x7, x12, x19⟩ => by kernel_rfl) (sim_seq (sim_reg (fun ⟨x0, x1, x2, x6, x7, x12, x19⟩ _ _ _ => by kernel_rfl)) (sim_ret)) (sim_skip)))) (sim_reg (fun ⟨x0, x1, x2, x6, x7, x12, x19⟩ _ _ _ => by kernel_rfl))))))) (sim_seq (sim_reg (fun ⟨x0, x1, x2, x6, x7, x12, x19⟩ _ _ _ => by kernel_rfl)) (sim_ret)))
theorem S98_ok (call : Nat → List AV → M AV) (fuel : Nat) (args : List AV) (s : AS) : afn call fuel A98 args s = S98 call fuel args s := by
  rcases args with _ | ⟨x0, _ | ⟨x1, _ | ⟨x2, _ | ⟨x3, r⟩⟩⟩⟩
  · kernel_rfl
  · kernel_rfl
  · kernel_rfl
  · exact (afn_sim (S98_sim call fuel) (v := (.mk x0 x1 x2)) (e2 := S98e) (by kernel_rfl) (by kernel_rfl) (fun e w s => by cases w; cases e <;> kernel_rfl)).trans (by kernel_rfl)
  · kernel_rfl
def A99 : AFn := { nargs := 1, ntmps := 28, res := [.tmp 2], code := .seq (.ops [⟨0, (some 2), none, .p (.mv (.const (.int .i64 0))), []⟩] 1 [0]) (.seq (.seq (.ops [⟨0, (some 3), none, .p (.mv (.tmp 0)), []⟩, ⟨1, (some 4), none, .p (.nilchk (.tmp 3)), []⟩, ⟨2, (some 5), none, .p (.fld 1 (.tmp 4)), []⟩, ⟨4, (some 7), none, .p (.mv (.tmp 0)), []⟩, ⟨5, (some 8), none, .p (.nilchk (.tmp 7)), []⟩, ⟨6, (some 9), none, .p (.fld 0 (.tmp 8)), []⟩, ⟨3, (some 6), none, .r (.load false 1 (.tmp 5)), []⟩, ⟨7, (some 10), none, .r (.load false 1 (.tmp 9)), []⟩, ⟨8, (some 11), none, .p (.lenS false (.tmp 10)), []⟩, ⟨9, (some 12), none, .p (.bin .lss (.tmp 6) (.tmp 11)), []⟩] 10 [0, 12]) (.cond (.tmp 12) (.seq (.ops [⟨0, (some 13), none, .p (.mv (.tmp 0)), []⟩, ⟨1, (some 14), none, .p (.nilchk (.tmp 13)), []⟩, ⟨2, (some 15), none, .p (.fld 0 (.tmp 14)), []⟩, ⟨4, (some 17), none, .p (.mv (.tmp 0)), []⟩, ⟨5, (some 18), none, .p (.nilchk (.tmp 17)), []⟩, ⟨6, (some 19), none, .p (.fld 1 (.tmp 18)), []⟩, ⟨3, (some 16), none, .r (.load false 1 (.tmp 15)), []⟩, ⟨7, (some 20), none, .r (.load false 1 (.tmp 19)), []⟩, ⟨8, (some 21), none, .p (.idx 3 (.tmp 16) (.tmp 20)), []⟩, ⟨9, (some 22), none, .p (.fld 1 (.tmp 21)), []⟩, ⟨10, (some 23), none, .r (.load false 1 (.tmp 22)), []⟩, ⟨11, (some 2), none, .p (.mv (.tmp 23)), []⟩] 12 [2]) (.ret)) (.skip))) (.seq (.ops [⟨0, (some 24), none, .p (.mv (.tmp 0)), []⟩, ⟨1, (some 25), none, .p (.nilchk (.tmp 24)), []⟩, ⟨2, (some 26), none, .p (.fld 2 (.tmp 25)), []⟩, ⟨3, (some 27), none, .r (.load false 1 (.tmp 26)), []⟩, ⟨4, (some 2), none, .p (.mv (.tmp 27)), []⟩] 5 [2]) (.ret))) }
def N99 : Notes := { note := fun | 1 => some ⟨[0, 1, 2, 4, 5, 6, 3, 7, 8, 9], [0, 1, 3, 7, 0, 16, 48, 112, 240, 511], [[], [], [], [], [], [], [], [], [], []]⟩ | 2 => some ⟨[0, 1, 2, 4, 5, 6, 3, 7, 8, 9, 10, 11], [0, 1, 3, 7, 0, 16, 48, 112, 255, 511, 1023, 2047], [[], [], [], [], [], [], [], [], [], [], [], []]⟩ | _ => none, keep := fun | 3 => [2] | 2 => [2] | 1 => [0, 12] | 0 => [0] | _ => [] }
theorem A99_ok : cFn Try.prog qf N99 Try.f99 = some A99 := by kernel_rfl
inductive W99 where
  | mk (x0 x2 x12 : AV)
abbrev V99 := AV
def mo99 : W99 → Fr := fun ⟨x0, x2, x12⟩ => [x0, .top, x2, .top, .top, .top, .top, .top, .top, .top, .top, .top, x12, .top, .top, .top, .top, .top, .top, .top, .top, .top, .top, .top, .top, .top, .top, .top]
def mi99 : V99 → Fr := fun x0 => [x0, .tup [], .tup [], .tup [], .tup [], .tup [], .tup [], .tup [], .tup [], .tup [], .tup [], .tup [], .tup [], .tup [], .tup [], .tup [], .tup [], .tup [], .tup [], .tup [], .tup [], .tup [], .tup [], .tup [], .tup [], .tup [], .tup [], .tup []]
noncomputable def S99r0 {R : Type} (call : Nat → List AV → M AV) : V99 → Nat → AS → (W99 → AS → Option R) → Option R := fun x0 base s k =>
  k (.mk x0 .top .top) s
noncomputable def S99r1 {R : Type} (call : Nat → List AV → M AV) : W99 → Nat → AS → (W99 → AS → Option R) → Option R := @W99.rec (fun _ => Nat → AS → (W99 → AS → Option R) → Option R) fun x0 x2 x12 base s k =>
  bndP (nilchkA x0) fun y0 =>
  bndP (fldA 1 y0) fun y1 =>
  bndP (nilchkA x0) fun y2 =>
  bndP (fldA 0 y2) fun y3 =>
  bndP (loadQ false 1 y1 s.h) fun y4 =>
  bndP (loadQ false 1 y3 s.h) fun y5 =>
  bndP (lenAQ false y5) fun y6 =>
  bndP (binQ .lss y4 y6) fun y7 =>
  k (.mk x0 .top y7) s
noncomputable def S99r2 {R : Type} (call : Nat → List AV → M AV) : W99 → Nat → AS → (W99 → AS → Option R) → Option R := @W99.rec (fun _ => Nat → AS → (W99 → AS → Option R) → Option R) fun x0 x2 x12 base s k =>
  bndP (nilchkA x0) fun y0 =>
  bndP (fldA 0 y0) fun y1 =>
  bndP (nilchkA x0) fun y2 =>
  bndP (fldA 1 y2) fun y3 =>
  bndP (loadQ false 1 y1 s.h) fun y4 =>
  bndP (loadQ false 1 y3 s.h) fun y5 =>
  bndP (idxQ 3 y4 y5) fun y6 =>
  bndP (fldA 1 y6) fun y7 =>
  bndP (loadQ false 1 y7 s.h) fun y8 =>
  k (.mk .top y8 .top) s
noncomputable def S99r3 {R : Type} (call : Nat → List AV → M AV) : W99 → Nat → AS → (W99 → AS → Option R) → Option R := @W99.rec (fun _ => Nat → AS → (W99 → AS → Option R) → Option R) fun x0 x2 x12 base s k =>
  bndP (nilchkA x0) fun y0 =>
  bndP (fldA 2 y0) fun y1 =>
  bndP (loadQ false 1 y1 s.h) fun y2 =>
  k (.mk .top y2 .top) s
noncomputable def S99c {R : Type} (call : Nat → List AV → M AV) (fuel : Nat) : SC V99 W99 R := sSeq (sReg 1 (S99r0 call)) (sSeq (sSeq (sReg 10 (S99r1 call)) (sCond (@W99.rec (fun _ => AV) fun _ _ x12 => x12) (sSeq (sReg 12 (S99r2 call)) (sRet)) (sSkip))) (sSeq (sReg 5 (S99r3 call)) (sRet)))
noncomputable def S99e : Ex → W99 → AS → Option (AV × AS) := fun e w s => (@W99.rec (fun _ => Option (AV × AS)) fun _ x2 _ => @Ex.rec (fun _ => Option (AV × AS)) (some (x2, s)) (fun _ => none) (some (x2, s)) e) w
noncomputable def S99 (call : Nat → List AV → M AV) (fuel : Nat) (args : List AV) (s : AS) : Option (AV × AS) := match args with
  | [x0] => S99c call fuel x0 s S99e
  | _ => none
theorem S99_sim (call : Nat → List AV → M AV) (fuel : Nat) : Sim (R := AV × AS) call fuel mi99 mo99 A99.code (S99c call fuel) := by
  refine sim_seq (sim_reg (fun x0 _ _ _ => by kernel_rfl)) (sim_seq (sim_seq (sim_reg (fun ⟨x0, x2, x12⟩ _ _ _ => by kernel_rfl)) (sim_cond (fun ⟨x0, x2, x12⟩ => by kernel_rfl) (sim_seq (sim_reg (fun ⟨x0, x2, x12⟩ _ _ _ => by kernel_rfl)) (sim_ret)) (sim_skip))) (sim_seq (sim_reg (fun ⟨x0, x2, x12⟩ _ _ _ => by kernel_rfl)) (sim_ret)))
theorem S99_ok (call : Nat → List AV → M AV) (fuel : Nat) (args : List AV) (s : AS) : afn call fuel A99 args s = S99 call fuel args s := by
  rcases args with _ | ⟨x0, _ | ⟨x1, r⟩⟩
  · kernel_rfl
  · exact (afn_sim (S99_sim call fuel) (v := x0) (e2 := S99e) (by kernel_rfl) (by kernel_rfl) (fun e w s => by cases w; cases e <;> kernel_rfl)).trans (by kernel_rfl)
  · kernel_rfl
def A100 : AFn := { nargs := 1, ntmps := 32, res := [.tmp 2], code := .seq (.ops [⟨0, (some 2), none, .p (.mv (.const (.bool false))), []⟩] 1 [0]) (.seq (.seq (.ops [⟨0, (some 3), none, .p (.mv (.const (.int .i64 0))), []⟩] 1 [0, 3]) (.block 0 (.loop (.seq (.seq (.ops [⟨0, (some 4), none, .p (.mv (.tmp 3)), []⟩, ⟨1, (some 5), none, .p (.mv (.tmp 0)), []⟩, ⟨2, (some 6), none, .p (.lenS true (.tmp 5)), []⟩, ⟨3, (some 7), none, .p (.bin .lss (.tmp 4) (.tmp 6)), []⟩] 4 [0, 3, 7]) (.cond (.tmp 7) (.skip) (.exit 0))) (.seq (.block 1 (.seq (.ops [⟨0, (some 10), none, .p (.mv (.tmp 0)), []⟩, ⟨1, (some 11), none, .p (.mv (.tmp 3)), []⟩, ⟨2, (some 12), none, .p (.idxs (.tmp 10) (.tmp 11)), []⟩, ⟨3, (some 13), none, .e (.call true 97 [.tmp 12]), []⟩, ⟨4, (some 14), none, .p (.notb (.tmp 13)), []⟩] 5 [0, 3, 14]) (.cond (.tmp 14) (.seq (.ops [⟨0, (some 2), none, .p (.mv (.const (.bool false))), []⟩] 1 [2]) (.ret)) (.skip)))) (.ops [⟨0, (some 8), none, .p (.mv (.tmp 3)), []⟩, ⟨1, (some 9), none, .p (.bin .add (.tmp 8) (.const (.int .i64 1))), []⟩, ⟨2, (some 3), none, .p (.mv (.tmp 9)), []⟩] 3 [0, 3])))))) (.seq (.ops [⟨0, (some 15), none, .p (.mv (.tmp 0)), []⟩, ⟨1, (some 16), none, .p (.lenS true (.tmp 15)), []⟩, ⟨2, (some 17), none, .p (.bin .geq (.tmp 16) (.const (.int .i64 1))), []⟩, ⟨3, (some 18), none, .p (.mv (.tmp 17)), []⟩, ⟨4, (some 19), (some (18, true)), .p (.mv (.tmp 0)), []⟩, ⟨5, (some 20), (some (18, true)), .p (.lenS true (.tmp 19)), []⟩, ⟨6, (some 21), (some (18, true)), .p (.bin .leq (.tmp 20) (.const (.int .i64 30))), []⟩, ⟨7, (some 22), none, .p (.pick (.tmp 18) (.tmp 21) (.const (.bool false))), []⟩, ⟨8, (some 23), none, .p (.mv (.tmp 22)), []⟩, ⟨9, (some 24), (some (23, true)), .p (.mv (.tmp 0)), []⟩, ⟨10, (some 25), (some (23, true)), .p (.idxs (.tmp 24) (.const (.int .i64 0))), []⟩, ⟨11, (some 26), (some (23, true)), .p (.bin .neq (.tmp 25) (.const (.int .u8 95))), []⟩, ⟨12, (some 27), none, .p (.pick (.tmp 23) (.tmp 26) (.const (.bool false))), []⟩, ⟨13, (some 28), none, .p (.mv (.tmp 27)), []⟩, ⟨14, (some 29), (some (28, true)), .p (.mv (.tmp 0)), []⟩, ⟨15, (some 30), (some (28, true)), .p (.bin .neq (.tmp 29) (.const (.str [116, 121, 112, 101]))), []⟩, ⟨16, (some 31), none, .p (.pick (.tmp 28) (.tmp 30) (.const (.bool false))), []⟩, ⟨17, (some 2), none, .p (.mv (.tmp 31)), []⟩] 18 [2]) (.ret))) }
def N100 : Notes := { note := fun _ => none, keep := fun | 6 => [2] | 3 => [0, 3] | 5 => [2] | 4 => [0, 3, 14] | 2 => [0, 3, 7] | 1 => [0, 3] | 0 => [0] | _ => [] }
theorem A100_ok : cFn Try.prog qf N100 Try.f100 = some A100 := by kernel_rfl
inductive W100 where
  | mk (x0 x2 x3 x7 x14 : AV)
abbrev V100 := AV
def mo100 : W100 → Fr := fun ⟨x0, x2, x3, x7, x14⟩ => [x0, .top, x2, x3, .top, .top, .top, x7, .top, .top, .top, .top, .top, .top, x14, .top, .top, .top, .top, .top, .top, .top, .top, .top, .top, .top, .top, .top, .top, .top, .top, .top]
def mi100 : V100 → Fr := fun x0 => [x0, .tup [], .tup [], .tup [], .tup [], .tup [], .tup [], .tup [], .tup [], .tup [], .tup [], .tup [], .tup [], .tup [], .tup [], .tup [], .tup [], .tup [], .tup [], .tup [], .tup [], .tup [], .tup [], .tup [], .tup [], .tup [], .tup [], .tup [], .tup [], .tup [], .tup [], .tup []]
noncomputable def S100r0 {R : Type} (call : Nat → List AV → M AV) : V100 → Nat → AS → (W100 → AS → Option R) → Option R := fun x0 base s k =>
  k (.mk x0 .top .top .top .top) s
noncomputable def S100r1 {R : Type} (call : Nat → List AV → M AV) : W100 → Nat → AS → (W100 → AS → Option R) → Option R := @W100.rec (fun _ => Nat → AS → (W100 → AS → Option R) → Option R) fun x0 x2 x3 x7 x14 base s k =>
  k (.mk x0 .top ((.int .i64 0) : AV) .top .top) s
noncomputable def S100r2 {R : Type} (call : Nat → List AV → M AV) : W100 → Nat → AS → (W100 → AS → Option R) → Option R := @W100.rec (fun _ => Nat → AS → (W100 → AS → Option R) → Option R) fun x0 x2 x3 x7 x14 base s k =>
  bndP (lenAQ true x0) fun y0 =>
  bndP (binQ .lss x3 y0) fun y1 =>
  k (.mk x0 .top x3 y1 .top) s
noncomputable def S100r3 {R : Type} (call : Nat → List AV → M AV) : W100 → Nat → AS → (W100 → AS → Option R) → Option R := @W100.rec (fun _ => Nat → AS → (W100 → AS → Option R) → Option R) fun x0 x2 x3 x7 x14 base s k =>
  bndP (idxsQ x0 x3) fun y0 =>
  bndO (quietQ call 97 [y0] s) fun y1 s =>
  bndP (notA y1) fun y2 =>
  k (.mk x0 .top x3 .top y2) s
noncomputable def S100r4 {R : Type} (call : Nat → List AV → M AV) : W100 → Nat → AS → (W100 → AS → Option R) → Option R := @W100.rec (fun _ => Nat → AS → (W100 → AS → Option R) → Option R) fun x0 x2 x3 x7 x14 base s k =>
  k (.mk .top ((.bool false) : AV) .top .top .top) s
noncomputable def S100r5 {R : Type} (call : Nat → List AV → M AV) : W100 → Nat → AS → (W100 → AS → Option R) → Option R := @W100.rec (fun _ => Nat → AS → (W100 → AS → Option R) → Option R) fun x0 x2 x3 x7 x14 base s k =>
  bndP (binQ .add x3 ((.int .i64 1) : AV)) fun y0 =>
  k (.mk x0 .top y0 .top .top) s
noncomputable def S100b6 {R : Type} (call : Nat → List AV → M AV) (fuel : Nat) : SC W100 W100 R := sSeq (sSeq (sReg 4 (S100r2 call)) (sCond (@W100.rec (fun _ => AV) fun _ _ _ x7 _ => x7) (sSkip) (sExit 0))) (sSeq (sBlock 1 (sSeq (sReg 5 (S100r3 call)) (sCond (@W100.rec (fun _ => AV) fun _ _ _ _ x14 => x14) (sSeq (sReg 1 (S100r4 call)) (sRet)) (sSkip)))) (sReg 3 (S100r5 call)))
noncomputable def S100r7 {R : Type} (call : Nat → List AV → M AV) : W100 → Nat → AS → (W100 → AS → Option R) → Option R := @W100.rec (fun _ => Nat → AS → (W100 → AS → Option R) → Option R) fun x0 x2 x3 x7 x14 base s k =>
  bndP (lenAQ true x0) fun y0 =>
  bndP (binQ .geq y0 ((.int .i64 1) : AV)) fun y1 =>
  bndO (gd (wantG y1 true) (fun s => (pureO (some x0) s)) s) fun y2 s =>
  bndO (gd (wantG y1 true) (fun s => (pureO (lenAQ true y2) s)) s) fun y3 s =>
  bndO (gd (wantG y1 true) (fun s => (pureO (binQ .leq y3 ((.int .i64 30) : AV)) s)) s) fun y4 s =>
  bndP (pickA y1 y4 ((.bool false) : AV)) fun y5 =>
  bndO (gd (wantG y5 true) (fun s => (pureO (some x0) s)) s) fun y6 s =>
  bndO (gd (wantG y5 true) (fun s => (pureO (idxsQ y6 ((.int .i64 0) : AV)) s)) s) fun y7 s =>
  bndO (gd (wantG y5 true) (fun s => (pureO (binQ .neq y7 ((.int .u8 95) : AV)) s)) s) fun y8 s =>
  bndP (pickA y5 y8 ((.bool false) : AV)) fun y9 =>
  bndO (gd (wantG y9 true) (fun s => (pureO (some x0) s)) s) fun y10 s =>
  bndO (gd (wantG y9 true) (fun s => (pureO (binQ .neq y10 ((.str [116, 121, 112, 101]) : AV)) s)) s) fun y11 s =>
  bndP (pickA y9 y11 ((.bool false) : AV)) fun y12 =>
  k (.mk .top y12 .top .top .top) s
noncomputable def S100c {R : Type} (call : Nat → List AV → M AV) (fuel : Nat) : SC V100 W100 R := sSeq (sReg 1 (S100r0 call)) (sSeq (sSeq (sReg 1 (S100r1 call)) (sBlock 0 (sLoop fuel (S100b6 call fuel)))) (sSeq (sReg 18 (S100r7 call)) (sRet)))
noncomputable def S100e : Ex → W100 → AS → Option (AV × AS) := fun e w s => (@W100.rec (fun _ => Option (AV × AS)) fun _ x2 _ _ _ => @Ex.rec (fun _ => Option (AV × AS)) (some (x2, s)) (fun _ => none) (some (x2, s)) e) w
noncomputable def S100 (call : Nat → List AV → M AV) (fuel : Nat) (args : List AV) (s : AS) : Option (AV × AS) := match args with
  | [x0] => S100c call fuel x0 s S100e
  | _ => none
theorem S100_sim (call : Nat → List AV → M AV) (fuel : Nat) : Sim (R := AV × AS) call fuel mi100 mo100 A100.code (S100c call fuel) := by
  refine sim_seq (sim_reg (fun x0 _ _ _ => by kernel_rfl)) (sim_seq (sim_seq (sim_reg (fun ⟨x0, x2, x3, x7, x14⟩ _ _ _ => by kernel_rfl)) (sim_block (sim_loop (sim_seq (sim_seq (sim_reg (fun ⟨x0, x2, x3, x7, x14⟩ _ _ _ => by kernel_rfl)) (sim_cond (fun ⟨x0, x2, x3, x7, x14⟩ => by kernel_rfl) (sim_skip) (sim_exit))) (sim_seq (sim_block (sim_seq (sim_reg (fun ⟨x0, x2, x3, x7, x14⟩ _ _ _ => by kernel_rfl)) (sim_cond (fun ⟨x0, x2, x3, x7, x14⟩ => by kernel_rfl) (sim_seq (sim_reg (fun ⟨x0, x2, x3, x7, x14⟩ _ _ _ => by kernel_rfl)) (sim_ret)) (sim_skip)))) (sim_reg (fun ⟨x0, x2, x3, x7, x14⟩ _ _ _ => by kernel_rfl))))))) (sim_seq (sim_reg (fun ⟨x0, x2, x3, x7, x14⟩ _ _ _ => by kernel_rfl)) (sim_ret)))
theorem S100_ok (call : Nat → List AV → M AV) (fuel : Nat) (args : List AV) (s : AS) : afn call fuel A100 args s = S100 call fuel args s := by
  rcases args with _ | ⟨x0, _ | ⟨x1, r⟩⟩
  · kernel_rfl
  · exact (afn_sim (S100_sim call fuel) (v := x0) (e2 := S100e) (by kernel_rfl) (by kernel_rfl) (fun e w s => by cases w; cases e <;> kernel_rfl)).trans (by kernel_rfl)
  · kernel_rfl
def A101 : AFn := { nargs := 1, ntmps := 37, res := [], code := .seq (.ops [⟨0, (some 4), none, .p (.mv (.tmp 0)), []⟩, ⟨1, (some 5), none, .e (.call false 113 [.tmp 4]), []⟩] 2 [0]) (.block 0 (.loop (.seq (.seq (.ops [⟨0, (some 6), none, .p (.mv (.tmp 0)), []⟩, ⟨1, (some 7), none, .p (.nilchk (.tmp 6)), []⟩, ⟨2, (some 8), none, .p (.fld 3 (.tmp 7)), []⟩, ⟨3, (some 9), none, .r (.load false 1 (.tmp 8)), []⟩, ⟨4, (some 10), none, .p (.bin .eql (.tmp 9) (.const (.int .i64 0))), []⟩, ⟨5, (some 11), none, .p (.mv (.tmp 10)), []⟩, ⟨6, (some 12), (some (11, true)), .p (.mv (.tmp 0)), []⟩, ⟨7, (some 13), (some (11, true)), .e (.call true 73 [.tmp 12, .const (.str [43])]), []⟩, ⟨8, (some 14), (some (11, true)), .p (.mv (.tmp 13)), []⟩, ⟨9, (some 15), (some (14, false)), .p (.mv (.tmp 0)), []⟩, ⟨10, (some 16), (some (14, false)), .e (.call true 73 [.tmp 15, .const (.str [45])]), []⟩, ⟨11, (some 17), (some (11, true)), .p (.pick (.tmp 14) (.const (.bool true)) (.tmp 16)), []⟩, ⟨12, (some 18), none, .p (.pick (.tmp 11) (.tmp 17) (.const (.bool false))), []⟩] 13 [0, 18]) (.cond (.tmp 18) (.skip) (.exit 0))) (.block 1 (.seq (.ops [⟨0, (some 19), none, .p (.mv (.tmp 0)), []⟩, ⟨1, (some 20), none, .e (.call true 99 [.tmp 19]), []⟩, ⟨2, (some 2), none, .p (.mv (.tmp 20)), []⟩] 3 [0, 2]) (.seq (.ops [⟨0, (some 3), none, .p (.mv (.const (.int .i64 3))), []⟩] 1 [0, 2, 3]) (.seq (.seq (.ops [⟨0, (some 21), none, .p (.mv (.tmp 0)), []⟩, ⟨1, (some 22), none, .e (.call true 73 [.tmp 21, .const (.str [45])]), []⟩] 2 [0, 2, 3, 22]) (.cond (.tmp 22) (.ops [⟨0, (some 3), none, .p (.mv (.const (.int .i64 4))), []⟩] 1 [0, 2, 3]) (.skip))) (.seq (.ops [⟨0, (some 23), none, .p (.mv (.tmp 0)), []⟩, ⟨1, (some 24), none, .p (.nilchk (.tmp 23)), []⟩, ⟨2, (some 25), none, .p (.fld 1 (.tmp 24)), []⟩, ⟨3, (some 26), none, .r (.load false 1 (.tmp 25)), []⟩, ⟨4, (some 27), none, .p (.bin .add (.tmp 26) (.const (.int .i64 1))), []⟩, ⟨5, (some 28), none, .p (.nilchk (.tmp 23)), []⟩, ⟨6, (some 29), none, .p (.fld 1 (.tmp 28)), []⟩, ⟨7, none, none, .e (.store (.tmp 29) (.tmp 27) 1), []⟩] 8 [0, 2, 3]) (.seq (.ops [⟨0, (some 30), none, .p (.mv (.tmp 0)), []⟩, ⟨1, (some 31), none, .e (.call false 113 [.tmp 30]), []⟩] 2 [0, 2, 3]) (.ops [⟨0, (some 32), none, .p (.mv (.tmp 0)), []⟩, ⟨1, (some 33), none, .p (.mv (.tmp 3)), []⟩, ⟨2, (some 34), none, .p (.build [.int .i64 0, .str [], .str []] [(0, 1, .tmp 33)]), []⟩, ⟨3, (some 35), none, .p (.mv (.tmp 2)), []⟩, ⟨4, (some 36), none, .e (.call false 114 [.tmp 32, .tmp 34, .tmp 35]), []⟩] 5 [0])))))))))) }
def N101 : Notes := { note := fun _ => none, keep := fun | 8 => [0] | 7 => [0, 2, 3] | 6 => [0, 2, 3] | 5 => [0, 2, 3] | 4 => [0, 2, 3, 22] | 3 => [0, 2, 3] | 2 => [0, 2] | 1 => [0, 18] | 0 => [0] | _ => [] }
theorem A101_ok : cFn Try.prog qf N101 Try.f101 = some A101 := by kernel_rfl
inductive W101 where
  | mk (x0 x2 x3 x18 x22 : AV)
abbrev V101 := AV
def mo101 : W101 → Fr := fun ⟨x0, x2, x3, x18, x22⟩ => [x0, .top, x2, x3, .top, .top, .top, .top, .top, .top, .top, .top, .top, .top, .top, .top, .top, .top, x18, .top, .top, .top, x22, .top, .top, .top, .top, .top, .top, .top, .top, .top, .top, .top, .top, .top, .top]
def mi101 : V101 → Fr := fun x0 => [x0, .tup [], .tup [], .tup [], .tup [], .tup [], .tup [], .tup [], .tup [], .tup [], .tup [], .tup [], .tup [], .tup [], .tup [], .tup [], .tup [], .tup [], .tup [], .tup [], .tup [], .tup [], .tup [], .tup [], .tup [], .tup [], .tup [], .tup [], .tup [], .tup [], .tup [], .tup [], .tup [], .tup [], .tup [], .tup [], .tup []]
noncomputable def S101r0 {R : Type} (call : Nat → List AV → M AV) : V101 → Nat → AS → (W101 → AS → Option R) → Option R := fun x0 base s k =>
  bndO (call 113 [x0] s) fun y0 s =>
  k (.mk x0 .top .top .top .top) s
noncomputable def S101r1 {R : Type} (call : Nat → List AV → M AV) : W101 → Nat → AS → (W101 → AS → Option R) → Option R := @W101.rec (fun _ => Nat → AS → (W101 → AS → Option R) → Option R) fun x0 x2 x3 x18 x22 base s k =>
  bndP (nilchkA x0) fun y0 =>
  bndP (fldA 3 y0) fun y1 =>
  bndP (loadQ false 1 y1 s.h) fun y2 =>
  bndP (binQ .eql y2 ((.int .i64 0) : AV)) fun y3 =>
  bndO (gd (wantG y3 true) (fun s => (pureO (some x0) s)) s) fun y4 s =>
  bndO (gd (wantG y3 true) (fun s => (quietQ call 73 [y4, ((.str [43]) : AV)] s)) s) fun y5 s =>
  bndO (gd (wantG y3 true) (fun s => (pureO (some y5) s)) s) fun y6 s =>
  bndO (gd (wantG y6 false) (fun s => (pureO (some x0) s)) s) fun y7 s =>
  bndO (gd (wantG y6 false) (fun s => (quietQ call 73 [y7, ((.str [45]) : AV)] s)) s) fun y8 s =>
  bndO (gd (wantG y3 true) (fun s => (pureO (pickA y6 ((.bool true) : AV) y8) s)) s) fun y9 s =>
  bndP (pickA y3 y9 ((.bool false) : AV)) fun y10 =>
  k (.mk x0 .top .top y10 .top) s
noncomputable def S101r2 {R : Type} (call : Nat → List AV → M AV) : W101 → Nat → AS → (W101 → AS → Option R) → Option R := @W101.rec (fun _ => Nat → AS → (W101 → AS → Option R) → Option R) fun x0 x2 x3 x18 x22 base s k =>
  bndO (quietQ call 99 [x0] s) fun y0 s =>
  k (.mk x0 y0 .top .top .top) s
noncomputable def S101r3 {R : Type} (call : Nat → List AV → M AV) : W101 → Nat → AS → (W101 → AS → Option R) → Option R := @W101.rec (fun _ => Nat → AS → (W101 → AS → Option R) → Option R) fun x0 x2 x3 x18 x22 base s k =>
  k (.mk x0 x2 ((.int .i64 3) : AV) .top .top) s
noncomputable def S101r4 {R : Type} (call : Nat → List AV → M AV) : W101 → Nat → AS → (W101 → AS → Option R) → Option R := @W101.rec (fun _ => Nat → AS → (W101 → AS → Option R) → Option R) fun x0 x2 x3 x18 x22 base s k =>
  bndO (quietQ call 73 [x0, ((.str [45]) : AV)] s) fun y0 s =>
  k (.mk x0 x2 x3 .top y0) s
noncomputable def S101r5 {R : Type} (call : Nat → List AV → M AV) : W101 → Nat → AS → (W101 → AS → Option R) → Option R := @W101.rec (fun _ => Nat → AS → (W101 → AS → Option R) → Option R) fun x0 x2 x3 x18 x22 base s k =>
  k (.mk x0 x2 ((.int .i64 4) : AV) .top .top) s
noncomputable def S101r6 {R : Type} (call : Nat → List AV → M AV) : W101 → Nat → AS → (W101 → AS → Option R) → Option R := @W101.rec (fun _ => Nat → AS → (W101 → AS → Option R) → Option R) fun x0 x2 x3 x18 x22 base s k =>
  bndP (nilchkA x0) fun y0 =>
  bndP (fldA 1 y0) fun y1 =>
  bndP (loadQ false 1 y1 s.h) fun y2 =>
  bndP (binQ .add y2 ((.int .i64 1) : AV)) fun y3 =>
  bndP (nilchkA x0) fun y4 =>
  bndP (fldA 1 y4) fun y5 =>
  bndO (storeQ y5 y3 1 s) fun _ s =>
  k (.mk x0 x2 x3 .top .top) s
noncomputable def S101r7 {R : Type} (call : Nat → List AV → M AV) : W101 → Nat → AS → (W101 → AS → Option R) → Option R := @W101.rec (fun _ => Nat → AS → (W101 → AS → Option R) → Option R) fun x0 x2 x3 x18 x22 base s k =>
  bndO (call 113 [x0] s) fun y0 s =>
  k (.mk x0 x2 x3 .top .top) s
noncomputable def S101r8 {R : Type} (call : Nat → List AV → M AV) : W101 → Nat → AS → (W101 → AS → Option R) → Option R := @W101.rec (fun _ => Nat → AS → (W101 → AS → Option R) → Option R) fun x0 x2 x3 x18 x22 base s k =>
  bndP (buildA [(.int .i64 0), (.str []), (.str [])] [(0, 1, x3)]) fun y0 =>
  bndO (call 114 [x0, y0, x2] s) fun y1 s =>
  k (.mk x0 .top .top .top .top) s
noncomputable def S101b9 {R : Type} (call : Nat → List AV → M AV) (fuel : Nat) : SC W101 W101 R := sSeq (sSeq (sReg 13 (S101r1 call)) (sCond (@W101.rec (fun _ => AV) fun _ _ _ x18 _ => x18) (sSkip) (sExit 0))) (sBlock 1 (sSeq (sReg 3 (S101r2 call)) (sSeq (sReg 1 (S101r3 call)) (sSeq (sSeq (sReg 2 (S101r4 call)) (sCond (@W101.rec (fun _ => AV) fun _ _ _ _ x22 => x22) (sReg 1 (S101r5 call)) (sSkip))) (sSeq (sReg 8 (S101r6 call)) (sSeq (sReg 2 (S101r7 call)) (sReg 5 (S101r8 call))))))))
noncomputable def S101c {R : Type} (call : Nat → List AV → M AV) (fuel : Nat) : SC V101 W101 R := sSeq (sReg 2 (S101r0 call)) (sBlock 0 (sLoop fuel (S101b9 call fuel)))
noncomputable def S101e : Ex → W101 → AS → Option (AV × AS) := fun e w s => (@W101.rec (fun _ => Option (AV × AS)) fun _ _ _ _ _ => @Ex.rec (fun _ => Option (AV × AS)) (some (.tup [], s)) (fun _ => none) (some (.tup [], s)) e) w
noncomputable def S101 (call : Nat → List AV → M AV) (fuel : Nat) (args : List AV) (s : AS) : Option (AV × AS) := match args with
  | [x0] => S101c call fuel x0 s S101e
  | _ => none
theorem S101_sim (call : Nat → List AV → M AV) (fuel : Nat) : Sim (R := AV × AS) call fuel mi101 mo101 A101.code (S101c call fuel) := by
  refine sim_seq (sim_reg (fun x0 _ _ _ => by kernel_rfl)) (sim_block (sim_loop (sim_seq (sim_seq (sim_reg (fun ⟨x0, x2, x3, x18, x22⟩ _ _ _ => by kernel_rfl)) (sim_cond (fun ⟨x0, x2, x3, x18, x22⟩ => by kernel_rfl) (sim_skip) (sim_exit))) (sim_block (sim_seq (sim_reg (fun ⟨x0, x2, x3, x18, x22⟩ _ _ _ => by kernel_rfl)) (sim_seq (sim_reg (fun ⟨x0, x2, x3, x18, x22⟩ _ _ _ => by kernel_rfl)) (sim_seq (sim_seq (sim_reg (fun ⟨x0, x2, x3, x18, x22⟩ _ _ _ => by kernel_rfl)) (sim_cond (fun ⟨x0, x2, x3, x18, x22⟩ => by kernel_rfl) (sim_reg (fun ⟨x0, x2, x3, x18, x22⟩ _ _ _ => by kernel_rfl)) (sim_skip))) (sim_seq (sim_reg (fun ⟨x0, x2, x3, x18, x22⟩ _ _ _ => by kernel_rfl)) (sim_seq (sim_reg (fun ⟨x0, x2, x3, x18, x22⟩ _ _ _ => by kernel_rfl)) (sim_reg (fun ⟨x0, x2, x3, x18, x22⟩ _ _ _ => by kernel_rfl)))))))))))
theorem S101_ok (call : Nat → List AV → M AV) (fuel : Nat) (args : List AV) (s : AS) : afn call fuel A101 args s = S101 call fuel args s := by
  rcases args with _ | ⟨x0, _ | ⟨x1, r⟩⟩
  · kernel_rfl
  · exact (afn_sim (S101_sim call fuel) (v := x0) (e2 := S101e) (by kernel_rfl) (by kernel_rfl) (fun e w s => by cases w; cases e <;> kernel_rfl)).trans (by kernel_rfl)
  · kernel_rfl
def A102 : AFn := { nargs := 1, ntmps := 17, res := [.tmp 2], code := .seq (.ops [⟨0, (some 2), none, .p (.mv (.const (.bool false))), []⟩] 1 [0]) (.seq (.ops [⟨0, (some 3), none, .p (.mv (.tmp 0)), []⟩, ⟨1, (some 4), none, .p (.bin .geq (.tmp 3) (.const (.int .u8 97))), []⟩, ⟨2, (some 5), none, .p (.mv (.tmp 4)), []⟩, ⟨3, (some 6), (some (5, true)), .p (.mv (.tmp 0)), []⟩, ⟨4, (some 7), (some (5, true)), .p (.bin .leq (.tmp 6) (.const (.int .u8 122))), []⟩, ⟨5, (some 8), none, .p (.pick (.tmp 5) (.tmp 7) (.const (.bool false))), []⟩, ⟨6, (some 9), none, .p (.mv (.tmp 8)), []⟩, ⟨7, (some 10), (some (9, false)), .p (.mv (.tmp 0)), []⟩, ⟨8, (some 11), (some (9, false)), .p (.bin .geq (.tmp 10) (.const (.int .u8 48))), []⟩, ⟨9, (some 12), (some (9, false)), .p (.mv (.tmp 11)), []⟩, ⟨10, (some 13), (some (12, true)), .p (.mv (.tmp 0)), []⟩, ⟨11, (some 14), (some (12, true)), .p (.bin .leq (.tmp 13) (.const (.int .u8 57))), []⟩, ⟨12, (some 15), (some (9, false)), .p (.pick (.tmp 12) (.tmp 14) (.const (.bool false))), []⟩, ⟨13, (some 16), none, .p (.pick (.tmp 9) (.const (.bool true)) (.tmp 15)), []⟩, ⟨14, (some 2), none, .p (.mv (.tmp 16)), []⟩] 15 [2]) (.ret)) }
def N102 : Notes := { note := fun _ => none, keep := fun | 1 => [2] | 0 => [0] | _ => [] }
theorem A102_ok : cFn Try.prog qf N102 Try.f102 = some A102 := by kernel_rfl
inductive W102 where
  | mk (x0 x2 : AV)
abbrev V102 := AV
def mo102 : W102 → Fr := fun ⟨x0, x2⟩ => [x0, .top, x2, .top, .top, .top, .top, .top, .top, .top, .top, .top, .top, .top, .top, .top, .top]
def mi102 : V102 → Fr := fun x0 => [x0, .tup [], .tup [], .tup [], .tup [], .tup [], .tup [], .tup [], .tup [], .tup [], .tup [], .tup [], .tup [], .tup [], .tup [], .tup [], .tup []]
noncomputable def S102r0 {R : Type} (call : Nat → List AV → M AV) : V102 → Nat → AS → (W102 → AS → Option R) → Option R := fun x0 base s k =>
  k (.mk x0 .top) s
noncomputable def S102r1 {R : Type} (call : Nat → List AV → M AV) : W102 → Nat → AS → (W102 → AS → Option R) → Option R := @W102.rec (fun _ => Nat → AS → (W102 → AS → Option R) → Option R) fun x0 x2 base s k =>
  bndP (binQ .geq x0 ((.int .u8 97) : AV)) fun y0 =>
  bndO (gd (wantG y0 true) (fun s => (pureO (some x0) s)) s) fun y1 s =>
  bndO (gd (wantG y0 true) (fun s => (pureO (binQ .leq y1 ((.int .u8 122) : AV)) s)) s) fun y2 s =>
  bndP (pickA y0 y2 ((.bool false) : AV)) fun y3 =>
  bndO (gd (wantG y3 false) (fun s => (pureO (some x0) s)) s) fun y4 s =>
  bndO (gd (wantG y3 false) (fun s => (pureO (binQ .geq y4 ((.int .u8 48) : AV)) s)) s) fun y5 s =>
  bndO (gd (wantG y3 false) (fun s => (pureO (some y5) s)) s) fun y6 s =>
  bndO (gd (wantG y6 true) (fun s => (pureO (some x0) s)) s) fun y7 s =>
  bndO (gd (wantG y6 true) (fun s => (pureO (binQ .leq y7 ((.int .u8 57) : AV)) s)) s) fun y8 s =>
  bndO (gd (wantG y3 false) (fun s => (pureO (pickA y6 y8 ((.bool false) : AV)) s)) s) fun y9 s =>
  bndP (pickA y3 ((.bool true) : AV) y9) fun y10 =>
  k (.mk .top y10) s
noncomputable def S102c {R : Type} (call : Nat → List AV → M AV) (fuel : Nat) : SC V102 W102 R := sSeq (sReg 1 (S102r0 call)) (sSeq (sReg 15 (S102r1 call)) (sRet))
noncomputable def S102e : Ex → W102 → AS → Option (AV × AS) := fun e w s => (@W102.rec (fun _ => Option (AV × AS)) fun _ x2 => @Ex.rec (fun _ => Option (AV × AS)) (some (x2, s)) (fun _ => none) (some (x2, s)) e) w
noncomputable def S102 (call : Nat → List AV → M AV) (fuel : Nat) (args : List AV) (s : AS) : Option (AV × AS) := match args with
  | [x0] => S102c call fuel x0 s S102e
  | _ => none
theorem S102_sim (call : Nat → List AV → M AV) (fuel : Nat) : Sim (R := AV × AS) call fuel mi102 mo102 A102.code (S102c call fuel) := by
  refine sim_seq (sim_reg (fun x0 _ _ _ => by kernel_rfl)) (sim_seq (sim_reg (fun ⟨x0, x2⟩ _ _ _ => by kernel_rfl)) (sim_ret))
theorem S102_ok (call : Nat → List AV → M AV) (fuel : Nat) (args : List AV) (s : AS) : afn call fuel A102 args s = S102 call fuel args s := by
  rcases args with _ | ⟨x0, _ | ⟨x1, r⟩⟩
  · kernel_rfl
  · exact (afn_sim (S102_sim call fuel) (v := x0) (e2 := S102e) (by kernel_rfl) (by kernel_rfl) (fun e w s => by cases w; cases e <;> kernel_rfl)).trans (by kernel_rfl)
  · kernel_rfl
def A103 : AFn := { nargs := 1, ntmps := 17, res := [.tmp 2], code := .seq (.ops [⟨0, (some 2), none, .p (.mv (.const (.bool false))), []⟩] 1 [0]) (.seq (.ops [⟨0, (some 3), none, .p (.mv (.tmp 0)), []⟩, ⟨1, (some 4), none, .e (.call true 102 [.tmp 3]), []⟩, ⟨2, (some 5), none, .p (.mv (.tmp 4)), []⟩, ⟨3, (some 6), (some (5, false)), .p (.mv (.tmp 0)), []⟩, ⟨4, (some 7), (some (5, false)), .p (.bin .eql (.tmp 6) (.const (.int .u8 95))), []⟩, ⟨5, (some 8), none, .p (.pick (.tmp 5) (.const (.bool true)) (.tmp 7)), []⟩, ⟨6, (some 9), none, .p (.mv (.tmp 8)), []⟩, ⟨7, (some 10), (some (9, false)), .p (.mv (.tmp 0)), []⟩, ⟨8, (some 11), (some (9, false)), .p (.bin .eql (.tmp 10) (.const (.int .u8 45))), []⟩, ⟨9, (some 12), none, .p (.pick (.tmp 9) (.const (.bool true)) (.tmp 11)), []⟩, ⟨10, (some 13), none, .p (.mv (.tmp 12)), []⟩, ⟨11, (some 14), (some (13, false)), .p (.mv (.tmp 0)), []⟩, ⟨12, (some 15), (some (13, false)), .p (.bin .eql (.tmp 14) (.const (.int .u8 46))), []⟩, ⟨13, (some 16), none, .p (.pick (.tmp 13) (.const (.bool true)) (.tmp 15)), []⟩, ⟨14, (some 2), none, .p (.mv (.tmp 16)), []⟩] 15 [2]) (.ret)) }
def N103 : Notes := { note := fun _ => none, keep := fun | 1 => [2] | 0 => [0] | _ => [] }
theorem A103_ok : cFn Try.prog qf N103 Try.f103 = some A103 := by kernel_rfl
inductive W103 where
  | mk (x0 x2 : AV)
abbrev V103 := AV
def mo103 : W103 → Fr := fun ⟨x0, x2⟩ => [x0, .top, x2, .top, .top, .top, .top, .top, .top, .top, .top, .top, .top, .top, .top, .top, .top]
def mi103 : V103 → Fr := fun x0 => [x0, .tup [], .tup [], .tup [], .tup [], .tup [], .tup [], .tup [], .tup [], .tup [], .tup [], .tup [], .tup [], .tup [], .tup [], .tup [], .tup []]
noncomputable def S103r0 {R : Type} (call : Nat → List AV → M AV) : V103 → Nat → AS → (W103 → AS → Option R) → Option R := fun x0 base s k =>
  k (.mk x0 .top) s
noncomputable def S103r1 {R : Type} (call : Nat → List AV → M AV) : W103 → Nat → AS → (W103 → AS → Option R) → Option R := @W103.rec (fun _ => Nat → AS → (W103 → AS → Option R) → Option R) fun x0 x2 base s k =>
  bndO (quietQ call 102 [x0] s) fun y0 s =>
  bndO (gd (wantG y0 false) (fun s => (pureO (some x0) s)) s) fun y1 s =>
  bndO (gd (wantG y0 false) (fun s => (pureO (binQ .eql y1 ((.int .u8 95) : AV)) s)) s) fun y2 s =>
  bndP (pickA y0 ((.bool true) : AV) y2) fun y3 =>
  bndO (gd (wantG y3 false) (fun s => (pureO (some x0) s)) s) fun y4 s =>
  bndO (gd (wantG y3 false) (fun s => (pureO (binQ .eql y4 ((.int .u8 45) : AV)) s)) s) fun y5 s =>
  bndP (pickA y3 ((.bool true) : AV) y5) fun y6 =>
  bndO (gd (wantG y6 false) (fun s => (pureO (some x0) s)) s) fun y7 s =>
  bndO (gd (wantG y6 false) (fun s => (pureO (binQ .eql y7 ((.int .u8 46) : AV)) s)) s) fun y8 s =>
  bndP (pickA y6 ((.bool true) : AV) y8) fun y9 =>
  k (.mk .top y9) s
noncomputable def S103c {R : Type} (call : Nat → List AV → M AV) (fuel : Nat) : SC V103 W103 R := sSeq (sReg 1 (S103r0 call)) (sSeq (sReg 15 (S103r1 call)) (sRet))
noncomputable def S103e : Ex → W103 → AS → Option (AV × AS) := fun e w s => (@W103.rec (fun _ => Option (AV × AS)) fun _ x2 => @Ex.rec (fun _ => Option (AV × AS)) (some (x2, s)) (fun _ => none) (some (x2, s)) e) w
noncomputable def S103 (call : Nat → List AV → M AV) (fuel : Nat) (args : List AV) (s : AS) : Option (AV × AS) := match args with
  | [x0] => S103c call fuel x0 s S103e
  | _ => none
theorem S103_sim (call : Nat → List AV → M AV) (fuel : Nat) : Sim (R := AV × AS) call fuel mi103 mo103 A103.code (S103c call fuel) := by
  refine sim_seq (sim_reg (fun x0 _ _ _ => by kernel_rfl)) (sim_seq (sim_reg (fun ⟨x0, x2⟩ _ _ _ => by kernel_rfl)) (sim_ret))
theorem S103_ok (call : Nat → List AV → M AV) (fuel : Nat) (args : List AV) (s : AS) : afn call fuel A103 args s = S103 call fuel args s := by
  rcases args with _ | ⟨x0, _ | ⟨x1, r⟩⟩
  · kernel_rfl
  · exact (afn_sim (S103_sim call fuel) (v := x0) (e2 := S103e) (by kernel_rfl) (by kernel_rfl) (fun e w s => by cases w; cases e <;> kernel_rfl)).trans (by kernel_rfl)
  · kernel_rfl
def A112 : AFn := { nargs := 3, ntmps := 76, res := [.tmp 6], code := .seq (.ops [⟨0, (some 6), none, .p (.mv (.const (.nils))), []⟩] 1 [0, 1, 2]) (.seq (.ops [⟨0, (some 7), none, .p (.mv (.const (.nils))), []⟩] 1 [0, 1, 2, 7]) (.seq (.seq (.ops [⟨0, (some 13), none, .p (.mv (.tmp 2)), []⟩, ⟨1, (some 14), none, .p (.lenS false (.tmp 13)), []⟩, ⟨2, (some 15), none, .p (.mv (.const (.int .i64 0))), []⟩] 3 [0, 1, 7, 13, 14, 15]) (.block 0 (.loop (.seq (.ops [⟨0, (some 16), none, .p (.bin .lss (.tmp 15) (.tmp 14)), []⟩] 1 [0, 1, 7, 13, 14, 15, 16]) (.seq (.cond (.tmp 16) (.skip) (.exit 0)) (.seq (.block 1 (.seq (.ops [⟨0, (some 17), none, .p (.idx 3 (.tmp 13) (.tmp 15)), []⟩, ⟨1, (some 18), none, .r (.load true 3 (.tmp 17)), []⟩, ⟨2, (some 9), none, .l (.alloc [.int .i64 0, .str [], .str []]), []⟩, ⟨3, none, none, .e (.store (.tmp 9) (.tmp 18) 3), []⟩] 4 [0, 1, 7, 9, 13, 14, 15]) (.seq (.ops [⟨0, (some 19), none, .p (.mv (.tmp 7)), []⟩, ⟨1, (some 20), none, .p (.lenS false (.tmp 19)), []⟩, ⟨2, (some 10), none, .p (.mv (.tmp 20)), []⟩] 3 [0, 1, 7, 9, 10, 13, 14, 15]) (.block 2 (.seq (.ops [⟨0, (some 22), none, .p (.fld 0 (.tmp 9)), []⟩, ⟨1, (some 23), none, .r (.load false 1 (.tmp 22)), []⟩, ⟨2, (some 24), none, .p (.bin .eql (.tmp 23) (.const (.int .i64 1))), []⟩, ⟨3, (some 25), none, .p (.mv (.tmp 24)), []⟩, ⟨4, (some 26), (some (25, false)), .p (.fld 0 (.tmp 9)), []⟩, ⟨5, (some 27), (some (25, false)), .r (.load false 1 (.tmp 26)), []⟩, ⟨6, (some 28), (some (25, false)), .p (.bin .eql (.tmp 27) (.const (.int .i64 2))), []⟩, ⟨7, (some 29), none, .p (.pick (.tmp 25) (.const (.bool true)) (.tmp 28)), []⟩, ⟨8, (some 21), none, .p (.mv (.tmp 29)), []⟩] 9 [0, 1, 7, 9, 10, 13, 14, 15, 21]) (.cond (.tmp 21) (.ops [⟨0, (some 30), none, .p (.mv (.tmp 7)), []⟩, ⟨1, (some 31), none, .p (.mv (.tmp 0)), []⟩, ⟨2, (some 32), none, .p (.mv (.tmp 1)), []⟩, ⟨3, (some 33), none, .r (.load true 3 (.tmp 9)), []⟩, ⟨4, (some 34), none, .e (.call true 122 [.tmp 31, .tmp 32, .tmp 33]), []⟩, ⟨5, (some 35), none, .k { z := [.nils], len := 1, parts := [(0, .tmp 34)] }, []⟩, ⟨6, (some 36), none, .e (.append 1 24 (.tmp 30) (.tmp 35)), []⟩, ⟨7, (some 7), none, .p (.mv (.tmp 36)), []⟩] 8 [0, 1, 7, 13, 14, 15]) (.seq (.ops [⟨0, (some 38), none, .p (.mv (.tmp 10)), []⟩, ⟨1, (some 39), none, .p (.bin .geq (.tmp 38) (.const (.int .i64 2))), []⟩, ⟨2, (some 37), none, .p (.mv (.tmp 39)), []⟩] 3 [0, 1, 7, 9, 10, 13, 14, 15, 37]) (.cond (.tmp 37) (.seq (.ops [⟨0, (some 40), none, .p (.mv (.tmp 7)), []⟩, ⟨1, (some 41), none, .p (.mv (.tmp 10)), []⟩, ⟨2, (some 42), none, .p (.bin .sub (.tmp 41) (.const (.int .i64 1))), []⟩, ⟨3, (some 43), none, .p (.idx 1 (.tmp 40) (.tmp 42)), []⟩, ⟨4, (some 44), none, .r (.load false 1 (.tmp 43)), []⟩, ⟨5, (some 45), none, .e (.call false 123 [.tmp 44]), []⟩, ⟨6, (some 11), none, .p (.mv (.tmp 45)), []⟩] 7 [0, 1, 7, 9, 10, 11, 13, 14, 15]) (.seq (.seq (.ops [⟨0, (some 46), none, .p (.mv (.tmp 11)), []⟩, ⟨1, (some 47), none, .p (.lenS false (.tmp 46)), []⟩, ⟨2, (some 48), none, .p (.mv (.const (.int .i64 0))), []⟩] 3 [0, 1, 7, 9, 10, 11, 13, 14, 15, 47, 48]) (.block 3 (.loop (.seq (.ops [⟨0, (some 49), none, .p (.bin .lss (.tmp 48) (.tmp 47)), []⟩] 1 [0, 1, 7, 9, 10, 11, 13, 14, 15, 47, 48, 49]) (.seq (.cond (.tmp 49) (.skip) (.exit 3)) (.seq (.block 4 (.seq (.ops [⟨0, (some 50), none, .p (.mv (.tmp 48)), []⟩, ⟨1, (some 12), none, .p (.mv (.tmp 50)), []⟩] 2 [0, 1, 7, 9, 10, 11, 12, 13, 14, 15, 47, 48]) (.seq (.ops [⟨0, (some 51), none, .p (.fld 0 (.tmp 9)), []⟩, ⟨1, (some 52), none, .r (.load false 1 (.tmp 51)), []⟩, ⟨2, (some 53), none, .p (.bin .eql (.tmp 52) (.const (.int .i64 4))), []⟩] 3 [0, 1, 7, 9, 10, 11, 12, 13, 14, 15, 47, 48, 53]) (.cond (.tmp 53) (.ops [⟨0, (some 54), none, .p (.mv (.tmp 11)), []⟩, ⟨1, (some 55), none, .p (.mv (.tmp 12)), []⟩, ⟨2, (some 56), none, .p (.idx 3 (.tmp 54) (.tmp 55)), []⟩, ⟨3, (some 57), none, .p (.fld 2 (.tmp 56)), []⟩, ⟨4, none, none, .e (.store (.tmp 57) (.const (.int .i64 1)) 1), []⟩] 5 [0, 1, 7, 9, 10, 11, 13, 14, 15, 47, 48]) (.skip))))) (.ops [⟨0, (some 58), none, .p (.bin .add (.tmp 48) (.const (.int .i64 1))), []⟩, ⟨1, (some 48), none, .p (.mv (.tmp 58)), []⟩] 2 [0, 1, 7, 9, 10, 11, 13, 14, 15, 47, 48]))))))) (.ops [⟨0, (some 59), none, .p (.mv (.tmp 7)), []⟩, ⟨1, (some 60), none, .p (.mv (.tmp 10)), []⟩, ⟨2, (some 61), none, .p (.bin .sub (.tmp 60) (.const (.int .i64 2))), []⟩, ⟨3, (some 62), none, .p (.cut 1 (.tmp 59) none (some (.tmp 61)) none), []⟩, ⟨4, (some 63), none, .p (.mv (.tmp 7)), []⟩, ⟨5, (some 64), none, .p (.mv (.tmp 10)), []⟩, ⟨6, (some 65), none, .p (.bin .sub (.tmp 64) (.const (.int .i64 2))), []⟩, ⟨7, (some 66), none, .p (.idx 1 (.tmp 63) (.tmp 65)), []⟩, ⟨10, (some 69), none, .p (.mv (.tmp 11)), []⟩, ⟨8, (some 67), none, .r (.load false 1 (.tmp 66)), []⟩, ⟨9, (some 68), none, .e (.call false 123 [.tmp 67]), []⟩, ⟨11, (some 70), none, .e (.append 3 40 (.tmp 68) (.tmp 69)), []⟩, ⟨12, (some 71), none, .k { z := [.nils], len := 1, parts := [(0, .tmp 70)] }, []⟩, ⟨13, (some 72), none, .e (.append 1 24 (.tmp 62) (.tmp 71)), []⟩, ⟨14, (some 7), none, .p (.mv (.tmp 72)), []⟩] 15 [0, 1, 7, 13, 14, 15]))) (.skip))))))))) (.ops [⟨0, (some 73), none, .p (.bin .add (.tmp 15) (.const (.int .i64 1))), []⟩, ⟨1, (some 15), none, .p (.mv (.tmp 73)), []⟩] 2 [0, 1, 7, 13, 14, 15]))))))) (.seq (.ops [⟨0, (some 74), none, .p (.mv (.tmp 7)), []⟩, ⟨1, (some 75), none, .e (.call false 124 [.tmp 74]), []⟩, ⟨2, (some 6), none, .p (.mv (.tmp 75)), []⟩] 3 [6]) (.ret)))) }
def N112 : Notes := { note := fun | 16 => some ⟨[0, 1, 2, 3, 4, 5, 6, 7, 10, 8, 9, 11, 12, 13, 14], [0, 0, 2, 7, 0, 0, 32, 112, 240, 496, 0, 2032, 4080, 8191, 16383], [[], [], [], [], [], [], [], [], [], [], [], [], [], [], []]⟩ | _ => none, keep := fun | 18 => [6] | 17 => [0, 1, 7, 13, 14, 15] | 7 => [0, 1, 7, 13, 14, 15] | 16 => [0, 1, 7, 13, 14, 15] | 15 => [0, 1, 7, 9, 10, 11, 13, 14, 15, 47, 48] | 14 => [0, 1, 7, 9, 10, 11, 13, 14, 15, 47, 48] | 13 => [0, 1, 7, 9, 10, 11, 12, 13, 14, 15, 47, 48, 53] | 12 => [0, 1, 7, 9, 10, 11, 12, 13, 14, 15, 47, 48] | 11 => [0, 1, 7, 9, 10, 11, 13, 14, 15, 47, 48, 49] | 10 => [0, 1, 7, 9, 10, 11, 13, 14, 15, 47, 48] | 9 => [0, 1, 7, 9, 10, 11, 13, 14, 15] | 8 => [0, 1, 7, 9, 10, 13, 14, 15, 37] | 6 => [0, 1, 7, 9, 10, 13, 14, 15, 21] | 5 => [0, 1, 7, 9, 10, 13, 14, 15] | 4 => [0, 1, 7, 9, 13, 14, 15] | 3 => [0, 1, 7, 13, 14, 15, 16] | 2 => [0, 1, 7, 13, 14, 15] | 1 => [0, 1, 2, 7] | 0 => [0, 1, 2] | _ => [] }
theorem A112_ok : cFn Try.prog qf N112 Try.f112 = some A112 := by kernel_rfl
inductive W112 where
  | mk (x0 x1 x2 x6 x7 x9 x10 x11 x12 x13 x14 x15 x16 x21 x37 x47 x48 x49 x53 : AV)
inductive V112 where
  | mk (x0 x1 x2 : AV)
def mo112 : W112 → Fr := fun ⟨x0, x1, x2, x6, x7, x9, x10, x11, x12, x13, x14, x15, x16, x21, x37, x47, x48, x49, x53⟩ => [x0, x1, x2, .top, .top, .top, x6, x7, .top, x9, x10, x11, x12, x13, x14, x15, x16, .top, .top, .top, .top, x21, .top, .top, .top, .top, .top, .top, .top, .top, .top, .top, .top, .top, .top, .top, .top, x37, .top, .top, .top, .top, .top, .top, .top, .top, .top, x47, x48, x49, .top, .top, .top, x53, .top, .top, .top, .top, .top, .top, .top, .top, .top, .top, .top, .top, .top, .top, .top, .top, .top, .top, .top, .top, .top, .top]
def mi112 : V112 → Fr := fun ⟨x0, x1, x2⟩ => [x0, x1, x2, .tup [], .tup [], .tup [], .tup [], .tup [], .tup [], .tup [], .tup [], .tup [], .tup [], .tup [], .tup [], .tup [], .tup [], .tup [], .tup [], .tup [], .tup [], .tup [], .tup [], .tup [], .tup [], .tup [], .tup [], .tup [], .tup [], .tup [], .tup [], .tup [], .tup [], .tup [], .tup [], .tup [], .tup [], .tup [], .tup [], .tup [], .tup [], .tup [], .tup [], .tup [], .tup [], .tup [], .tup [], .tup [], .tup [], .tup [], .tup [], .tup [], .tup [], .tup [], .tup [], .tup [], .tup [], .tup [], .tup [], .tup [], .tup [], .tup [], .tup [], .tup [], .tup [], .tup [], .tup [], .tup [], .tup [], .tup [], .tup [], .tup [], .tup [], .tup [], .tup [], .tup []]
noncomputable def S112r0 {R : Type} (call : Nat → List AV → M AV) : V112 → Nat → AS → (W112 → AS → Option R) → Option R := @V112.rec (fun _ => Nat → AS → (W112 → AS → Option R) → Option R) fun x0 x1 x2 base s k =>
  k (.mk x0 x1 x2 .top .top .top .top .top .top .top .top .top .top .top .top .top .top .top .top) s
noncomputable def S112r1 {R : Type} (call : Nat → List AV → M AV) : W112 → Nat → AS → (W112 → AS → Option R) → Option R := @W112.rec (fun _ => Nat → AS → (W112 → AS → Option R) → Option R) fun x0 x1 x2 x6 x7 x9 x10 x11 x12 x13 x14 x15 x16 x21 x37 x47 x48 x49 x53 base s k =>
  k (.mk x0 x1 x2 .top (.nils : AV) .top .top .top .top .top .top .top .top .top .top .top .top .top .top) s
noncomputable def S112r2 {R : Type} (call : Nat → List AV → M AV) : W112 → Nat → AS → (W112 → AS → Option R) → Option R := @W112.rec (fun _ => Nat → AS → (W112 → AS → Option R) → Option R) fun x0 x1 x2 x6 x7 x9 x10 x11 x12 x13 x14 x15 x16 x21 x37 x47 x48 x49 x53 base s k =>
  bndP (lenAQ false x2) fun y0 =>
  k (.mk x0 x1 .top .top x7 .top .top .top .top x2 y0 ((.int .i64 0) : AV) .top .top .top .top .top .top .top) s
noncomputable def S112r3 {R : Type} (call : Nat → List AV → M AV) : W112 → Nat → AS → (W112 → AS → Option R) → Option R := @W112.rec (fun _ => Nat → AS → (W112 → AS → Option R) → Option R) fun x0 x1 x2 x6 x7 x9 x10 x11 x12 x13 x14 x15 x16 x21 x37 x47 x48 x49 x53 base s k =>
  bndP (binQ .lss x15 x14) fun y0 =>
  k (.mk x0 x1 .top .top x7 .top .top .top .top x13 x14 x15 y0 .top .top .top .top .top .top) s
noncomputable def S112r4 {R : Type} (call : Nat → List AV → M AV) : W112 → Nat → AS → (W112 → AS → Option R) → Option R := @W112.rec (fun _ => Nat → AS → (W112 → AS → Option R) → Option R) fun x0 x1 x2 x6 x7 x9 x10 x11 x12 x13 x14 x15 x16 x21 x37 x47 x48 x49 x53 base s k =>
  bndP (idxQ 3 x13 x15) fun y0 =>
  bndP (loadQ true 3 y0 s.h) fun y1 =>
  bndO (newQ (base + 2) (allocB [(.int .i64 0), (.str []), (.str [])] (base + 2)) s) fun y2 s =>
  bndO (storeQ y2 y1 3 s) fun _ s =>
  k (.mk x0 x1 .top .top x7 y2 .top .top .top x13 x14 x15 .top .top .top .top .top .top .top) s
noncomputable def S112r5 {R : Type} (call : Nat → List AV → M AV) : W112 → Nat → AS → (W112 → AS → Option R) → Option R := @W112.rec (fun _ => Nat → AS → (W112 → AS → Option R) → Option R) fun x0 x1 x2 x6 x7 x9 x10 x11 x12 x13 x14 x15 x16 x21 x37 x47 x48 x49 x53 base s k =>
  bndP (lenAQ false x7) fun y0 =>
  k (.mk x0 x1 .top .top x7 x9 y0 .top .top x13 x14 x15 .top .top .top .top .top .top .top) s
noncomputable def S112r6 {R : Type} (call : Nat → List AV → M AV) : W112 → Nat → AS → (W112 → AS → Option R) → Option R := @W112.rec (fun _ => Nat → AS → (W112 → AS → Option R) → Option R) fun x0 x1 x2 x6 x7 x9 x10 x11 x12 x13 x14 x15 x16 x21 x37 x47 x48 x49 x53 base s k =>
  bndP (fldA 0 x9) fun y0 =>
  bndP (loadQ false 1 y0 s.h) fun y1 =>
  bndP (binQ .eql y1 ((.int .i64 1) : AV)) fun y2 =>
  bndO (gd (wantG y2 false) (fun s => (pureO (fldA 0 x9) s)) s) fun y3 s =>
  bndO (gd (wantG y2 false) (fun s => (pureO (loadQ false 1 y3 s.h) s)) s) fun y4 s =>
  bndO (gd (wantG y2 false) (fun s => (pureO (binQ .eql y4 ((.int .i64 2) : AV)) s)) s) fun y5 s =>
  bndP (pickA y2 ((.bool true) : AV) y5) fun y6 =>
  k (.mk x0 x1 .top .top x7 x9 x10 .top .top x13 x14 x15 .top y6 .top .top .top .top .top) s
noncomputable def S112r7 {R : Type} (call : Nat → List AV → M AV) : W112 → Nat → AS → (W112 → AS → Option R) → Option R := @W112.rec (fun _ => Nat → AS → (W112 → AS → Option R) → Option R) fun x0 x1 x2 x6 x7 x9 x10 x11 x12 x13 x14 x15 x16 x21 x37 x47 x48 x49 x53 base s k =>
  bndP (loadQ true 3 x9 s.h) fun y0 =>
  bndO (quietQ call 122 [x0, x1, y0] s) fun y1 s =>
  bndP (rowsA [.nils] 1 [(0, y1)]) fun y2 =>
  bndO (appQ (base + 6) 1 24 x7 y2 s) fun y3 s =>
  k (.mk x0 x1 .top .top y3 .top .top .top .top x13 x14 x15 .top .top .top .top .top .top .top) s
noncomputable def S112r8 {R : Type} (call : Nat → List AV → M AV) : W112 → Nat → AS → (W112 → AS → Option R) → Option R := @W112.rec (fun _ => Nat → AS → (W112 → AS → Option R) → Option R) fun x0 x1 x2 x6 x7 x9 x10 x11 x12 x13 x14 x15 x16 x21 x37 x47 x48 x49 x53 base s k =>
  bndP (binQ .geq x10 ((.int .i64 2) : AV)) fun y0 =>
  k (.mk x0 x1 .top .top x7 x9 x10 .top .top x13 x14 x15 .top .top y0 .top .top .top .top) s
noncomputable def S112r9 {R : Type} (call : Nat → List AV → M AV) : W112 → Nat → AS → (W112 → AS → Option R) → Option R := @W112.rec (fun _ => Nat → AS → (W112 → AS → Option R) → Option R) fun x0 x1 x2 x6 x7 x9 x10 x11 x12 x13 x14 x15 x16 x21 x37 x47 x48 x49 x53 base s k =>
  bndP (binQ .sub x10 ((.int .i64 1) : AV)) fun y0 =>
  bndP (idxQ 1 x7 y0) fun y1 =>
  bndP (loadQ false 1 y1 s.h) fun y2 =>
  bndO (call 123 [y2] s) fun y3 s =>
  k (.mk x0 x1 .top .top x7 x9 x10 y3 .top x13 x14 x15 .top .top .top .top .top .top .top) s
noncomputable def S112r10 {R : Type} (call : Nat → List AV → M AV) : W112 → Nat → AS → (W112 → AS → Option R) → Option R := @W112.rec (fun _ => Nat → AS → (W112 → AS → Option R) → Option R) fun x0 x1 x2 x6 x7 x9 x10 x11 x12 x13 x14 x15 x16 x21 x37 x47 x48 x49 x53 base s k =>
  bndP (lenAQ false x11) fun y0 =>
  k (.mk x0 x1 .top .top x7 x9 x10 x11 .top x13 x14 x15 .top .top .top y0 ((.int .i64 0) : AV) .top .top) s
noncomputable def S112r11 {R : Type} (call : Nat → List AV → M AV) : W112 → Nat → AS → (W112 → AS → Option R) → Option R := @W112.rec (fun _ => Nat → AS → (W112 → AS → Option R) → Option R) fun x0 x1 x2 x6 x7 x9 x10 x11 x12 x13 x14 x15 x16 x21 x37 x47 x48 x49 x53 base s k =>
  bndP (binQ .lss x48 x47) fun y0 =>
  k (.mk x0 x1 .top .top x7 x9 x10 x11 .top x13 x14 x15 .top .top .top x47 x48 y0 .top) s
noncomputable def S112r12 {R : Type} (call : Nat → List AV → M AV) : W112 → Nat → AS → (W112 → AS → Option R) → Option R := @W112.rec (fun _ => Nat → AS → (W112 → AS → Option R) → Option R) fun x0 x1 x2 x6 x7 x9 x10 x11 x12 x13 x14 x15 x16 x21 x37 x47 x48 x49 x53 base s k =>
  k (.mk x0 x1 .top .top x7 x9 x10 x11 x48 x13 x14 x15 .top .top .top x47 x48 .top .top) s
noncomputable def S112r13 {R : Type} (call : Nat → List AV → M AV) : W112 → Nat → AS → (W112 → AS → Option R) → Option R := @W112.rec (fun _ => Nat → AS → (W112 → AS → Option R) → Option R) fun x0 x1 x2 x6 x7 x9 x10 x11 x12 x13 x14 x15 x16 x21 x37 x47 x48 x49 x53 base s k =>
  bndP (fldA 0 x9) fun y0 =>
  bndP (loadQ false 1 y0 s.h) fun y1 =>
  bndP (binQ .eql y1 ((.int .i64 4) : AV)) fun y2 =>
  k (.mk x0 x1 .top .top x7 x9 x10 x11 x12 x13 x14 x15 .top .top .top x47 x48 .top y2) s
noncomputable def S112r14 {R : Type} (call : Nat → List AV → M AV) : W112 → Nat → AS → (W112 → AS → Option R) → Option R := @W112.rec (fun _ => Nat → AS → (W112 → AS → Option R) → Option R) fun x0 x1 x2 x6 x7 x9 x10 x11 x12 x13 x14 x15 x16 x21 x37 x47 x48 x49 x53 base s k =>
  bndP (idxQ 3 x11 x12) fun y0 =>
  bndP (fldA 2 y0) fun y1 =>
  bndO (storeQ y1 ((.int .i64 1) : AV) 1 s) fun _ s =>
  k (.mk x0 x1 .top .top x7 x9 x10 x11 .top x13 x14 x15 .top .top .top x47 x48 .top .top) s
noncomputable def S112r15 {R : Type} (call : Nat → List AV → M AV) : W112 → Nat → AS → (W112 → AS → Option R) → Option R := @W112.rec (fun _ => Nat → AS → (W112 → AS → Option R) → Option R) fun x0 x1 x2 x6 x7 x9 x10 x11 x12 x13 x14 x15 x16 x21 x37 x47 x48 x49 x53 base s k =>
  bndP (binQ .add x48 ((.int .i64 1) : AV)) fun y0 =>
  k (.mk x0 x1 .top .top x7 x9 x10 x11 .top x13 x14 x15 .top .top .top x47 y0 .top .top) s
noncomputable def S112b16 {R : Type} (call : Nat → List AV → M AV) (fuel : Nat) : SC W112 W112 R := sSeq (sReg 1 (S112r11 call)) (sSeq (sCond (@W112.rec (fun _ => AV) fun _ _ _ _ _ _ _ _ _ _ _ _ _ _ _ _ _ x49 _ => x49) (sSkip) (sExit 3)) (sSeq (sBlock 4 (sSeq (sReg 2 (S112r12 call)) (sSeq (sReg 3 (S112r13 call)) (sCond (@W112.rec (fun _ => AV) fun _ _ _ _ _ _ _ _ _ _ _ _ _ _ _ _ _ _ x53 => x53) (sReg 5 (S112r14 call)) (sSkip))))) (sReg 2 (S112r15 call))))
noncomputable def S112r17 {R : Type} (call : Nat → List AV → M AV) : W112 → Nat → AS → (W112 → AS → Option R) → Option R := @W112.rec (fun _ => Nat → AS → (W112 → AS → Option R) → Option R) fun x0 x1 x2 x6 x7 x9 x10 x11 x12 x13 x14 x15 x16 x21 x37 x47 x48 x49 x53 base s k =>
  bndP (binQ .sub x10 ((.int .i64 2) : AV)) fun y0 =>
  bndP (strN (cutV 1 x7 none (some y0) none)) fun y1 =>
  bndP (binQ .sub x10 ((.int .i64 2) : AV)) fun y2 =>
  bndP (idxQ 1 x7 y2) fun y3 =>
  bndP (loadQ false 1 y3 s.h) fun y4 =>
  bndO (call 123 [y4] s) fun y5 s =>
  bndO (appQ (base + 11) 3 40 y5 x11 s) fun y6 s =>
  bndP (rowsA [.nils] 1 [(0, y6)]) fun y7 =>
  bndO (appQ (base + 13) 1 24 y1 y7 s) fun y8 s =>
  k (.mk x0 x1 .top .top y8 .top .top .top .top x13 x14 x15 .top .top .top .top .top .top .top) s
noncomputable def S112r18 {R : Type} (call : Nat → List AV → M AV) : W112 → Nat → AS → (W112 → AS → Option R) → Option R := @W112.rec (fun _ => Nat → AS → (W112 → AS → Option R) → Option R) fun x0 x1 x2 x6 x7 x9 x10 x11 x12 x13 x14 x15 x16 x21 x37 x47 x48 x49 x53 base s k =>
  bndP (binQ .add x15 ((.int .i64 1) : AV)) fun y0 =>
  k (.mk x0 x1 .top .top x7 .top .top .top .top x13 x14 y0 .top .top .top .top .top .top .top) s
noncomputable def S112b19 {R : Type} (call : Nat → List AV → M AV) (fuel : Nat) : SC W112 W112 R := sSeq (sReg 1 (S112r3 call)) (sSeq (sCond (@W112.rec (fun _ => AV) fun _ _ _ _ _ _ _ _ _ _ _ _ x16 _ _ _ _ _ _ => x16) (sSkip) (sExit 0)) (sSeq (sBlock 1 (sSeq (sReg 4 (S112r4 call)) (sSeq (sReg 3 (S112r5 call)) (sBlock 2 (sSeq (sReg 9 (S112r6 call)) (sCond (@W112.rec (fun _ => AV) fun _ _ _ _ _ _ _ _ _ _ _ _ _ x21 _ _ _ _ _ => x21) (sReg 8 (S112r7 call)) (sSeq (sReg 3 (S112r8 call)) (sCond (@W112.rec (fun _ => AV) fun _ _ _ _ _ _ _ _ _ _ _ _ _ _ x37 _ _ _ _ => x37) (sSeq (sReg 7 (S112r9 call)) (sSeq (sSeq (sReg 3 (S112r10 call)) (sBlock 3 (sLoop fuel (S112b16 call fuel)))) (sReg 15 (S112r17 call)))) (sSkip))))))))) (sReg 2 (S112r18 call))))
noncomputable def S112r20 {R : Type} (call : Nat → List AV → M AV) : W112 → Nat → AS → (W112 → AS → Option R) → Option R := @W112.rec (fun _ => Nat → AS → (W112 → AS → Option R) → Option R) fun x0 x1 x2 x6 x7 x9 x10 x11 x12 x13 x14 x15 x16 x21 x37 x47 x48 x49 x53 base s k =>
  bndO (call 124 [x7] s) fun y0 s =>
  k (.mk .top .top .top y0 .top .top .top .top .top .top .top .top .top .top .top .top .top .top .top) s
noncomputable def S112c {R : Type} (call : Nat → List AV → M AV) (fuel : Nat) : SC V112 W112 R := sSeq (sReg 1 (S112r0 call)) (sSeq (sReg 1 (S112r1 call)) (sSeq (sSeq (sReg 3 (S112r2 call)) (sBlock 0 (sLoop fuel (S112b19 call fuel)))) (sSeq (sReg 3 (S112r20 call)) (sRet))))
noncomputable def S112e : Ex → W112 → AS → Option (AV × AS) := fun e w s => (@W112.rec (fun _ => Option (AV × AS)) fun _ _ _ x6 _ _ _ _ _ _ _ _ _ _ _ _ _ _ _ => @Ex.rec (fun _ => Option (AV × AS)) (some (x6, s)) (fun _ => none) (some (x6, s)) e) w
noncomputable def S112 (call : Nat → List AV → M AV) (fuel : Nat) (args : List AV) (s : AS) : Option (AV × AS) := match args with
  | [x0, x1, x2] => S112c call fuel (.mk x0 x1 x2) s S112e
  | _ => none
theorem S112_sim (call : Nat → List AV → M AV) (fuel : Nat) : Sim (R := AV × AS) call fuel mi112 mo112 A112.code (S112c call fuel) := by
  refine sim_seq (sim_reg (fun ⟨x0, x1, x2⟩ _ _ _ => by kernel_rfl)) (sim_seq (sim_reg (fun ⟨x0, x1, x2, x6, x7, x9, x10, x11, x12, x13, x14, x15, x16, x21, x37, x47, x48, x49, x53⟩ _ _ _ => by kernel_rfl)) (sim_seq (sim_seq (sim_reg (fun ⟨x0, x1, x2, x6, x7, x9, x10, x11, x12, x13, x14, x15, x16, x21, x37, x47, x48, x49, x53⟩ _ _ _ => by kernel_rfl)) (sim_block (sim_loop (sim_seq (sim_reg (fun ⟨x0, x1, x2, x6, x7, x9, x10, x11, x12, x13, x14, x15, x16, x21, x37, x47, x48, x49, x53⟩ _ _ _ => by kernel_rfl)) (sim_seq (sim_cond (fun ⟨x0, x1, x2, x6, x7, x9, x10, x11, x12, x13, x14, x15, x16, x21, x37, x47, x48, x49, x53⟩ => by kernel_rfl) (sim_skip) (sim_exit)) (sim_seq (sim_block (sim_seq (sim_reg (fun ⟨x0, x1, x2, x6, x7, x9, x10, x11, x12, x13, x14, x15, x16, x21, x37, x47, x48, x49, x53⟩ _ _ _ => by kernel_rfl)) (sim_seq (sim_reg (fun ⟨x0, x1, x2, x6, x7, x9, x10, x11, x12, x13, x14, x15, x16, x21, x37, x47, x48, x49, x53⟩ _ _ _ => by kernel_rfl)) (sim_block (sim_seq (sim_reg (fun ⟨x0, x1, x2, x6, x7, x9, x10, x11, x12, x13, x14, x15, x16, x21, x37, x47, x48, x49, x53⟩ _ _ _ => by kernel_rfl)) (sim_cond (fun ⟨x0, x1, x2, x6, x7, x9, x10, x11, x12, x13, x14, x15, x16, x21, x37, x47, x48, x49, x53⟩ => by kernel_rfl) (sim_reg (fun ⟨x0, x1, x2, x6, x7, x9, x10, x11, x12, x13, x14, x15, x16, x21, x37, x47, x48, x49, x53⟩ _ _ _ => by kernel_rfl)) (sim_seq (sim_reg (fun ⟨x0, x1, x2, x6, x7, x9, x10, x11, x12, x13, x14, x15, x16, x21, x37, x47, x48, x49, x53⟩ _ _ _ => by kernel_rfl)) (sim_cond (fun ⟨x0, x1, x2, x6, x7, x9, x10, x11, x12, x13, x14, x15, x16, x21, x37, x47, x48, x49, x53⟩ => by kernel_rfl) (sim_seq (sim_reg (fun ⟨x0, x1, x2, x6, x7, x9, x10, x11, x12, x13, x14, x15, x16, x21, x37, x47, x48, x49, x53⟩ _ _ _ => by kernel_rfl)) (sim_seq (sim_seq (sim_reg (fun ⟨x0, x1, x2, x6, x7, x9, x10, x11, x12, x13, x14, x15, x16, x21, x37, x47, x48, x49, x53⟩ _ _ _ => by kernel_rfl)) (sim_block (sim_loop (sim_seq (sim_reg (fun ⟨x0, x1, x2, x6, x7, x9, x10, x11, x12, x13, x14, x15, x16, x21, x37, x47, x48, x49, x53⟩ _ _ _ => by kernel_rfl)) (sim_seq (sim_cond (fun ⟨x0, x1, x2, x6, x7, x9, x10, x11, x12, x13, x14, x15, x16, x21, x37, x47, x48, x49, x53⟩ => by kernel_rfl) (sim_skip) (sim_exit)) (sim_seq (sim_block (sim_seq (sim_reg (fun ⟨x0, x1, x2, x6, x7, x9, x10, x11, x12, x13, x14, x15, x16, x21, x37, x47, x48, x49, x53⟩ _ _ _ => by kernel_rfl)) (sim_seq (sim_reg (fun ⟨x0, x1, x2, x6, x7, x9, x10, x11, x12, x13, x14, x15, x16, x21, x37, x47, x48, x49, x53⟩ _ _ _ => by kernel_rfl)) (sim_cond (fun ⟨x0, x1, x2, x6, x7, x9, x10, x11, x12, x13, x14, x15, x16, x21, x37, x47, x48, x49, x53⟩ => by kernel_rfl) (sim_reg (fun ⟨x0, x1, x2, x6, x7, x9, x10, x11, x12, x13, x14, x15, x16, x21, x37, x47, x48, x49, x53⟩ _ _ _ => by kernel_rfl)) (sim_skip))))) (sim_reg (fun ⟨x0, x1, x2, x6, x7, x9, x10, x11, x12, x13, x14, x15, x16, x21, x37, x47, x48, x49, x53⟩ _ _ _ => by kernel_rfl)))))))) (sim_reg (fun ⟨x0, x1, x2, x6, x7, x9, x10, x11, x12, x13, x14, x15, x16, x21, x37, x47, x48, x49, x53⟩ _ _ _ => by kernel_rfl)))) (sim_skip))))))))) (sim_reg (fun ⟨x0, x1, x2, x6, x7, x9, x10, x11, x12, x13, x14, x15, x16, x21, x37, x47, x48, x49, x53⟩ _ _ _ => by kernel_rfl)))))))) (sim_seq (sim_reg (fun ⟨x0, x1, x2, x6, x7, x9, x10, x11, x12, x13, x14, x15, x16, x21, x37, x47, x48, x49, x53⟩ _ _ _ => by kernel_rfl)) (sim_ret))))
theorem S112_ok (call : Nat → List AV → M AV) (fuel : Nat) (args : List AV) (s : AS) : afn call fuel A112 args s = S112 call fuel args s := by
  rcases args with _ | ⟨x0, _ | ⟨x1, _ | ⟨x2, _ | ⟨x3, r⟩⟩⟩⟩
  · kernel_rfl
  · kernel_rfl
  · kernel_rfl
  · exact (afn_sim (S112_sim call fuel) (v := (.mk x0 x1 x2)) (e2 := S112e) (by kernel_rfl) (by kernel_rfl) (fun e w s => by cases w; cases e <;> kernel_rfl)).trans (by kernel_rfl)
  · kernel_rfl
def A113 : AFn := { nargs := 1, ntmps := 29, res := [], code := .seq (.ops [⟨0, (some 3), none, .p (.mv (.tmp 0)), []⟩, ⟨1, (some 4), none, .e (.call false 125 [.tmp 3]), []⟩] 2 [0]) (.block 0 (.loop (.seq (.seq (.ops [⟨0, (some 5), none, .p (.mv (.tmp 0)), []⟩, ⟨1, (some 6), none, .p (.nilchk (.tmp 5)), []⟩, ⟨2, (some 7), none, .p (.fld 3 (.tmp 6)), []⟩, ⟨3, (some 8), none, .r (.load false 1 (.tmp 7)), []⟩, ⟨4, (some 9), none, .p (.bin .eql (.tmp 8) (.const (.int .i64 0))), []⟩, ⟨5, (some 10), none, .p (.mv (.tmp 9)), []⟩, ⟨6, (some 11), (some (10, true)), .p (.mv (.tmp 0)), []⟩, ⟨7, (some 12), (some (10, true)), .e (.call true 73 [.tmp 11, .const (.str [38])]), []⟩, ⟨8, (some 13), none, .p (.pick (.tmp 10) (.tmp 12) (.const (.bool false))), []⟩] 9 [0, 13]) (.cond (.tmp 13) (.skip) (.exit 0))) (.block 1 (.seq (.ops [⟨0, (some 14), none, .p (.mv (.tmp 0)), []⟩, ⟨1, (some 15), none, .e (.call true 99 [.tmp 14]), []⟩, ⟨2, (some 2), none, .p (.mv (.tmp 15)), []⟩] 3 [0, 2]) (.seq (.ops [⟨0, (some 16), none, .p (.mv (.tmp 0)), []⟩, ⟨1, (some 17), none, .p (.nilchk (.tmp 16)), []⟩, ⟨2, (some 18), none, .p (.fld 1 (.tmp 17)), []⟩, ⟨3, (some 19), none, .r (.load false 1 (.tmp 18)), []⟩, ⟨4, (some 20), none, .p (.bin .add (.tmp 19) (.const (.int .i64 1))), []⟩, ⟨5, (some 21), none, .p (.nilchk (.tmp 16)), []⟩, ⟨6, (some 22), none, .p (.fld 1 (.tmp 21)), []⟩, ⟨7, none, none, .e (.store (.tmp 22) (.tmp 20) 1), []⟩] 8 [0, 2]) (.seq (.ops [⟨0, (some 23), none, .p (.mv (.tmp 0)), []⟩, ⟨1, (some 24), none, .e (.call false 125 [.tmp 23]), []⟩] 2 [0, 2]) (.ops [⟨0, (some 25), none, .p (.mv (.tmp 0)), []⟩, ⟨1, (some 26), none, .p (.build [.int .i64 0, .str [], .str []] [(0, 1, .const (.int .i64 5))]), []⟩, ⟨2, (some 27), none, .p (.mv (.tmp 2)), []⟩, ⟨3, (some 28), none, .e (.call false 114 [.tmp 25, .tmp 26, .tmp 27]), []⟩] 4 [0])))))))) }
def N113 : Notes := { note := fun _ => none, keep := fun | 5 => [0] | 4 => [0, 2] | 3 => [0, 2] | 2 => [0, 2] | 1 => [0, 13] | 0 => [0] | _ => [] }
theorem A113_ok : cFn Try.prog qf N113 Try.f113 = some A113 := by kernel_rfl
inductive W113 where
  | mk (x0 x2 x13 : AV)
abbrev V113 := AV
def mo113 : W113 → Fr := fun ⟨x0, x2, x13⟩ => [x0, .top, x2, .top, .top, .top, .top, .top, .top, .top, .top, .top, .top, x13, .top, .top, .top, .top, .top, .top, .top, .top, .top, .top, .top, .top, .top, .top, .top]
def mi113 : V113 → Fr := fun x0 => [x0, .tup [], .tup [], .tup [], .tup [], .tup [], .tup [], .tup [], .tup [], .tup [], .tup [], .tup [], .tup [], .tup [], .tup [], .tup [], .tup [], .tup [], .tup [], .tup [], .tup [], .tup [], .tup [], .tup [], .tup [], .tup [], .tup [], .tup [], .tup []]
noncomputable def S113r0 {R : Type} (call : Nat → List AV → M AV) : V113 → Nat → AS → (W113 → AS → Option R) → Option R := fun x0 base s k =>
  bndO (call 125 [x0] s) fun y0 s =>
  k (.mk x0 .top .top) s
noncomputable def S113r1 {R : Type} (call : Nat → List AV → M AV) : W113 → Nat → AS → (W113 → AS → Option R) → Option R := @W113.rec (fun _ => Nat → AS → (W113 → AS → Option R) → Option R) fun x0 x2 x13 base s k =>
  bndP (nilchkA x0) fun y0 =>
  bndP (fldA 3 y0) fun y1 =>
  bndP (loadQ false 1 y1 s.h) fun y2 =>
  bndP (binQ .eql y2 ((.int .i64 0) : AV)) fun y3 =>
  bndO (gd (wantG y3 true) (fun s => (pureO (some x0) s)) s) fun y4 s =>
  bndO (gd (wantG y3 true) (fun s => (quietQ call 73 [y4, ((.str [38]) : AV)] s)) s) fun y5 s =>
  bndP (pickA y3 y5 ((.bool false) : AV)) fun y6 =>
  k (.mk x0 .top y6) s
noncomputable def S113r2 {R : Type} (call : Nat → List AV → M AV) : W113 → Nat → AS → (W113 → AS → Option R) → Option R := @W113.rec (fun _ => Nat → AS → (W113 → AS → Option R) → Option R) fun x0 x2 x13 base s k =>
  bndO (quietQ call 99 [x0] s) fun y0 s =>
  k (.mk x0 y0 .top) s
noncomputable def S113r3 {R : Type} (call : Nat → List AV → M AV) : W113 → Nat → AS → (W113 → AS → Option R) → Option R := @W113.rec (fun _ => Nat → AS → (W113 → AS → Option R) → Option R) fun x0 x2 x13 base s k =>
  bndP (nilchkA x0) fun y0 =>
  bndP (fldA 1 y0) fun y1 =>
  bndP (loadQ false 1 y1 s.h) fun y2 =>
  bndP (binQ .add y2 ((.int .i64 1) : AV)) fun y3 =>
  bndP (nilchkA x0) fun y4 =>
  bndP (fldA 1 y4) fun y5 =>
  bndO (storeQ y5 y3 1 s) fun _ s =>
  k (.mk x0 x2 .top) s
noncomputable def S113r4 {R : Type} (call : Nat → List AV → M AV) : W113 → Nat → AS → (W113 → AS → Option R) → Option R := @W113.rec (fun _ => Nat → AS → (W113 → AS → Option R) → Option R) fun x0 x2 x13 base s k =>
  bndO (call 125 [x0] s) fun y0 s =>
  k (.mk x0 x2 .top) s
noncomputable def S113r5 {R : Type} (call : Nat → List AV → M AV) : W113 → Nat → AS → (W113 → AS → Option R) → Option R := @W113.rec (fun _ => Nat → AS → (W113 → AS → Option R) → Option R) fun x0 x2 x13 base s k =>
  bndP (buildA [(.int .i64 0), (.str []), (.str [])] [(0, 1, ((.int .i64 5) : AV))]) fun y0 =>
  bndO (call 114 [x0, y0, x2] s) fun y1 s =>
  k (.mk x0 .top .top) s
noncomputable def S113b6 {R : Type} (call : Nat → List AV → M AV) (fuel : Nat) : SC W113 W113 R := sSeq (sSeq (sReg 9 (S113r1 call)) (sCond (@W113.rec (fun _ => AV) fun _ _ x13 => x13) (sSkip) (sExit 0))) (sBlock 1 (sSeq (sReg 3 (S113r2 call)) (sSeq (sReg 8 (S113r3 call)) (sSeq (sReg 2 (S113r4 call)) (sReg 4 (S113r5 call))))))
noncomputable def S113c {R : Type} (call : Nat → List AV → M AV) (fuel : Nat) : SC V113 W113 R := sSeq (sReg 2 (S113r0 call)) (sBlock 0 (sLoop fuel (S113b6 call fuel)))
noncomputable def S113e : Ex → W113 → AS → Option (AV × AS) := fun e w s => (@W113.rec (fun _ => Option (AV × AS)) fun _ _ _ => @Ex.rec (fun _ => Option (AV × AS)) (some (.tup [], s)) (fun _ => none) (some (.tup [], s)) e) w
noncomputable def S113 (call : Nat → List AV → M AV) (fuel : Nat) (args : List AV) (s : AS) : Option (AV × AS) := match args with
  | [x0] => S113c call fuel x0 s S113e
  | _ => none
theorem S113_sim (call : Nat → List AV → M AV) (fuel : Nat) : Sim (R := AV × AS) call fuel mi113 mo113 A113.code (S113c call fuel) := by
  refine sim_seq (sim_reg (fun x0 _ _ _ => by kernel_rfl)) (sim_block (sim_loop (sim_seq (sim_seq (sim_reg (fun ⟨x0, x2, x13⟩ _ _ _ => by kernel_rfl)) (sim_cond (fun ⟨x0, x2, x13⟩ => by kernel_rfl) (sim_skip) (sim_exit))) (sim_block (sim_seq (sim_reg (fun ⟨x0, x2, x13⟩ _ _ _ => by kernel_rfl)) (sim_seq (sim_reg (fun ⟨x0, x2, x13⟩ _ _ _ => by kernel_rfl)) (sim_seq (sim_reg (fun ⟨x0, x2, x13⟩ _ _ _ => by kernel_rfl)) (sim_reg (fun ⟨x0, x2, x13⟩ _ _ _ => by kernel_rfl)))))))))
theorem S113_ok (call : Nat → List AV → M AV) (fuel : Nat) (args : List AV) (s : AS) : afn call fuel A113 args s = S113 call fuel args s := by
  rcases args with _ | ⟨x0, _ | ⟨x1, r⟩⟩
  · kernel_rfl
  · exact (afn_sim (S113_sim call fuel) (v := x0) (e2 := S113e) (by kernel_rfl) (by kernel_rfl) (fun e w s => by cases w; cases e <;> kernel_rfl)).trans (by kernel_rfl)
  · kernel_rfl
def A114 : AFn := { nargs := 3, ntmps := 41, res := [], code := .seq (.ops [⟨0, (some 4), none, .l (.box (.tmp 1)), []⟩] 1 [0, 2, 4]) (.seq (.seq (.ops [⟨0, (some 6), none, .p (.mv (.tmp 0)), []⟩, ⟨1, (some 7), none, .p (.nilchk (.tmp 6)), []⟩, ⟨2, (some 8), none, .p (.fld 3 (.tmp 7)), []⟩, ⟨3, (some 9), none, .r (.load false 1 (.tmp 8)), []⟩, ⟨4, (some 10), none, .p (.bin .eql (.tmp 9) (.const (.int .i64 0))), []⟩, ⟨5, (some 11), none, .p (.mv (.tmp 10)), []⟩, ⟨6, (some 12), (some (11, true)), .p (.mv (.tmp 0)), []⟩, ⟨7, (some 13), (some (11, true)), .p (.nilchk (.tmp 12)), []⟩, ⟨8, (some 14), (some (11, true)), .p (.fld 6 (.tmp 13)), []⟩, ⟨9, (some 15), (some (11, true)), .r (.load false 1 (.tmp 14)), []⟩, ⟨10, (some 16), (some (11, true)), .p (.lenS false (.tmp 15)), []⟩, ⟨11, (some 17), (some (11, true)), .p (.bin .eql (.tmp 16) (.const (.int .i64 200))), []⟩, ⟨12, (some 18), none, .p (.pick (.tmp 11) (.tmp 17) (.const (.bool false))), []⟩] 13 [0, 2, 4, 18]) (.cond (.tmp 18) (.ops [⟨0, (some 19), none, .p (.mv (.tmp 0)), []⟩, ⟨1, (some 20), none, .p (.mv (.tmp 0)), []⟩, ⟨2, (some 21), none, .p (.mv (.tmp 2)), []⟩, ⟨3, (some 22), none, .p (.nilchk (.tmp 19)), []⟩, ⟨4, (some 23), none, .p (.fld 3 (.tmp 22)), []⟩, ⟨5, none, none, .e (.store (.tmp 23) (.const (.int .i64 8)) 1), []⟩, ⟨6, (some 24), none, .p (.nilchk (.tmp 20)), []⟩, ⟨7, (some 25), none, .p (.fld 4 (.tmp 24)), []⟩, ⟨8, none, none, .e (.store (.tmp 25) (.tmp 21) 1), []⟩] 9 [0, 4]) (.skip))) (.seq (.ops [⟨0, (some 26), none, .p (.mv (.tmp 0)), []⟩, ⟨1, (some 27), none, .p (.nilchk (.tmp 26)), []⟩, ⟨2, (some 28), none, .p (.fld 3 (.tmp 27)), []⟩, ⟨3, (some 29), none, .r (.load false 1 (.tmp 28)), []⟩, ⟨4, (some 30), none, .p (.bin .eql (.tmp 29) (.const (.int .i64 0))), []⟩] 5 [0, 4, 30]) (.cond (.tmp 30) (.ops [⟨0, (some 31), none, .p (.mv (.tmp 0)), []⟩, ⟨1, (some 32), none, .p (.mv (.tmp 0)), []⟩, ⟨2, (some 33), none, .p (.nilchk (.tmp 32)), []⟩, ⟨3, (some 34), none, .p (.fld 6 (.tmp 33)), []⟩, ⟨4, (some 35), none, .r (.load false 1 (.tmp 34)), []⟩, ⟨5, (some 36), none, .r (.load true 3 (.tmp 4)), []⟩, ⟨6, (some 37), none, .k { z := [.int .i64 0, .str [], .str []], len := 1, parts := [(0, .tmp 36)] }, []⟩, ⟨7, (some 38), none, .e (.append 3 40 (.tmp 35) (.tmp 37)), []⟩, ⟨8, (some 39), none, .p (.nilchk (.tmp 31)), []⟩, ⟨9, (some 40), none, .p (.fld 6 (.tmp 39)), []⟩, ⟨10, none, none, .e (.store (.tmp 40) (.tmp 38) 1), []⟩] 11 []) (.skip)))) }
def N114 : Notes := { note := fun | 4 => some ⟨[0, 1, 2, 3, 4, 5, 6, 7, 8, 9, 10], [0, 0, 2, 6, 14, 0, 32, 126, 255, 511, 1023], [[], [], [], [], [], [], [], [], [], [], []]⟩ | _ => none, keep := fun | 4 => [] | 3 => [0, 4, 30] | 2 => [0, 4] | 1 => [0, 2, 4, 18] | 0 => [0, 2, 4] | _ => [] }
theorem A114_ok : cFn Try.prog qf N114 Try.f114 = some A114 := by kernel_rfl
inductive W114 where
  | mk (x0 x2 x4 x18 x30 : AV)
inductive V114 where
  | mk (x0 x1 x2 : AV)
def mo114 : W114 → Fr := fun ⟨x0, x2, x4, x18, x30⟩ => [x0, .top, x2, .top, x4, .top, .top, .top, .top, .top, .top, .top, .top, .top, .top, .top, .top, .top, x18, .top, .top, .top, .top, .top, .top, .top, .top, .top, .top, .top, x30, .top, .top, .top, .top, .top, .top, .top, .top, .top, .top]
def mi114 : V114 → Fr := fun ⟨x0, x1, x2⟩ => [x0, x1, x2, .tup [], .tup [], .tup [], .tup [], .tup [], .tup [], .tup [], .tup [], .tup [], .tup [], .tup [], .tup [], .tup [], .tup [], .tup [], .tup [], .tup [], .tup [], .tup [], .tup [], .tup [], .tup [], .tup [], .tup [], .tup [], .tup [], .tup [], .tup [], .tup [], .tup [], .tup [], .tup [], .tup [], .tup [], .tup [], .tup [], .tup [], .tup []]
noncomputable def S114r0 {R : Type} (call : Nat → List AV → M AV) : V114 → Nat → AS → (W114 → AS → Option R) → Option R := @V114.rec (fun _ => Nat → AS → (W114 → AS → Option R) → Option R) fun x0 x1 x2 base s k =>
  bndO (newQ (base + 0) (boxB x1 (base + 0)) s) fun y0 s =>
  k (.mk x0 x2 y0 .top .top) s
noncomputable def S114r1 {R : Type} (call : Nat → List AV → M AV) : W114 → Nat → AS → (W114 → AS → Option R) → Option R := @W114.rec (fun _ => Nat → AS → (W114 → AS → Option R) → Option R) fun x0 x2 x4 x18 x30 base s k =>
  bndP (nilchkA x0) fun y0 =>
  bndP (fldA 3 y0) fun y1 =>
  bndP (loadQ false 1 y1 s.h) fun y2 =>
  bndP (binQ .eql y2 ((.int .i64 0) : AV)) fun y3 =>
  bndO (gd (wantG y3 true) (fun s => (pureO (some x0) s)) s) fun y4 s =>
  bndO (gd (wantG y3 true) (fun s => (pureO (nilchkA y4) s)) s) fun y5 s =>
  bndO (gd (wantG y3 true) (fun s => (pureO (fldA 6 y5) s)) s) fun y6 s =>
  bndO (gd (wantG y3 true) (fun s => (pureO (loadQ false 1 y6 s.h) s)) s) fun y7 s =>
  bndO (gd (wantG y3 true) (fun s => (pureO (lenAQ false y7) s)) s) fun y8 s =>
  bndO (gd (wantG y3 true) (fun s => (pureO (binQ .eql y8 ((.int .i64 200) : AV)) s)) s) fun y9 s =>
  bndP (pickA y3 y9 ((.bool false) : AV)) fun y10 =>
  k (.mk x0 x2 x4 y10 .top) s
noncomputable def S114r2 {R : Type} (call : Nat → List AV → M AV) : W114 → Nat → AS → (W114 → AS → Option R) → Option R := @W114.rec (fun _ => Nat → AS → (W114 → AS → Option R) → Option R) fun x0 x2 x4 x18 x30 base s k =>
  bndP (nilchkA x0) fun y0 =>
  bndP (fldA 3 y0) fun y1 =>
  bndO (storeQ y1 ((.int .i64 8) : AV) 1 s) fun _ s =>
  bndP (nilchkA x0) fun y2 =>
  bndP (fldA 4 y2) fun y3 =>
  bndO (storeQ y3 x2 1 s) fun _ s =>
  k (.mk x0 .top x4 .top .top) s
noncomputable def S114r3 {R : Type} (call : Nat → List AV → M AV) : W114 → Nat → AS → (W114 → AS → Option R) → Option R := @W114.rec (fun _ => Nat → AS → (W114 → AS → Option R) → Option R) fun x0 x2 x4 x18 x30 base s k =>
  bndP (nilchkA x0) fun y0 =>
  bndP (fldA 3 y0) fun y1 =>
  bndP (loadQ false 1 y1 s.h) fun y2 =>
  bndP (binQ .eql y2 ((.int .i64 0) : AV)) fun y3 =>
  k (.mk x0 .top x4 .top y3) s
noncomputable def S114r4 {R : Type} (call : Nat → List AV → M AV) : W114 → Nat → AS → (W114 → AS → Option R) → Option R := @W114.rec (fun _ => Nat → AS → (W114 → AS → Option R) → Option R) fun x0 x2 x4 x18 x30 base s k =>
  bndP (nilchkA x0) fun y0 =>
  bndP (fldA 6 y0) fun y1 =>
  bndP (loadQ false 1 y1 s.h) fun y2 =>
  bndP (loadQ true 3 x4 s.h) fun y3 =>
  bndP (rowsA [(.int .i64 0), (.str []), (.str [])] 1 [(0, y3)]) fun y4 =>
  bndO (appQ (base + 7) 3 40 y2 y4 s) fun y5 s =>
  bndP (nilchkA x0) fun y6 =>
  bndP (fldA 6 y6) fun y7 =>
  bndO (storeQ y7 y5 1 s) fun _ s =>
  k (.mk .top .top .top .top .top) s
noncomputable def S114c {R : Type} (call : Nat → List AV → M AV) (fuel : Nat) : SC V114 W114 R := sSeq (sReg 1 (S114r0 call)) (sSeq (sSeq (sReg 13 (S114r1 call)) (sCond (@W114.rec (fun _ => AV) fun _ _ _ x18 _ => x18) (sReg 9 (S114r2 call)) (sSkip))) (sSeq (sReg 5 (S114r3 call)) (sCond (@W114.rec (fun _ => AV) fun _ _ _ _ x30 => x30) (sReg 11 (S114r4 call)) (sSkip))))
noncomputable def S114e : Ex → W114 → AS → Option (AV × AS) := fun e w s => (@W114.rec (fun _ => Option (AV × AS)) fun _ _ _ _ _ => @Ex.rec (fun _ => Option (AV × AS)) (some (.tup [], s)) (fun _ => none) (some (.tup [], s)) e) w
noncomputable def S114 (call : Nat → List AV → M AV) (fuel : Nat) (args : List AV) (s : AS) : Option (AV × AS) := match args with
  | [x0, x1, x2] => S114c call fuel (.mk x0 x1 x2) s S114e
  | _ => none
theorem S114_sim (call : Nat → List AV → M AV) (fuel : Nat) : Sim (R := AV × AS) call fuel mi114 mo114 A114.code (S114c call fuel) := by
  refine sim_seq (sim_reg (fun ⟨x0, x1, x2⟩ _ _ _ => by kernel_rfl)) (sim_seq (sim_seq (sim_reg (fun ⟨x0, x2, x4, x18, x30⟩ _ _ _ => by kernel_rfl)) (sim_cond (fun ⟨x0, x2, x4, x18, x30⟩ => by kernel_rfl) (sim_reg (fun ⟨x0, x2, x4, x18, x30⟩ _ _ _ => by kernel_rfl)) (sim_skip))) (sim_seq (sim_reg (fun ⟨x0, x2, x4, x18, x30⟩ _ _ _ => by kernel_rfl)) (sim_cond (fun ⟨x0, x2, x4, x18, x30⟩ => by kernel_rfl) (sim_reg (fun ⟨x0, x2, x4, x18, x30⟩ _ _ _ => by kernel_rfl)) (sim_skip))))
theorem S114_ok (call : Nat → List AV → M AV) (fuel : Nat) (args : List AV) (s : AS) : afn call fuel A114 args s = S114 call fuel args s := by
  rcases args with _ | ⟨x0, _ | ⟨x1, _ | ⟨x2, _ | ⟨x3, r⟩⟩⟩⟩
  · kernel_rfl
  · kernel_rfl
  · kernel_rfl
  · exact (afn_sim (S114_sim call fuel) (v := (.mk x0 x1 x2)) (e2 := S114e) (by kernel_rfl) (by kernel_rfl) (fun e w s => by cases w; cases e <;> kernel_rfl)).trans (by kernel_rfl)
  · kernel_rfl
def A122 : AFn := { nargs := 3, ntmps := 47, res := [.tmp 6], code := .seq (.ops [⟨0, (some 5), none, .l (.box (.tmp 2)), []⟩, ⟨1, (some 6), none, .p (.mv (.const (.nils))), []⟩] 2 [0, 1, 5]) (.seq (.seq (.ops [⟨0, (some 12), none, .p (.fld 0 (.tmp 5)), []⟩, ⟨1, (some 13), none, .r (.load false 1 (.tmp 12)), []⟩, ⟨2, (some 14), none, .p (.bin .eql (.tmp 13) (.const (.int .i64 1))), []⟩] 3 [0, 1, 5, 14]) (.cond (.tmp 14) (.seq (.ops [⟨0, (some 15), none, .p (.mv (.tmp 1)), []⟩, ⟨1, (some 16), none, .p (.fld 1 (.tmp 5)), []⟩, ⟨2, (some 17), none, .r (.load false 1 (.tmp 16)), []⟩, ⟨3, (some 18), none, .p (.build [.str [], .str []] [(0, 1, .tmp 15), (1, 1, .tmp 17)]), []⟩, ⟨4, (some 19), none, .p (.build [.str [], .str [], .int .i64 0] [(0, 2, .tmp 18), (2, 1, .const (.int .i64 0))]), []⟩, ⟨5, (some 20), none, .k { z := [.str [], .str [], .int .i64 0], len := 1, parts := [(0, .tmp 19)] }, []⟩, ⟨6, (some 6), none, .p (.mv (.tmp 20)), []⟩] 7 [6]) (.ret)) (.skip))) (.seq (.ops [⟨0, (some 7), none, .p (.mv (.const (.nils))), []⟩] 1 [0, 1, 5, 7]) (.seq (.ops [⟨0, (some 22), none, .p (.mv (.tmp 0)), []⟩, ⟨1, (some 23), none, .p (.mv (.tmp 1)), []⟩, ⟨2, (some 24), none, .p (.fld 1 (.tmp 5)), []⟩, ⟨3, (some 25), none, .r (.load false 1 (.tmp 24)), []⟩, ⟨4, (some 26), none, .e (.call true 36 [.tmp 22, .tmp 23, .tmp 25]), []⟩, ⟨5, (some 21), none, .p (.mv (.tmp 26)), []⟩, ⟨6, (some 27), none, .p (.extract (.tmp 21) 0), []⟩, ⟨7, (some 28), none, .p (.extract (.tmp 21) 1), []⟩, ⟨8, (some 8), none, .l (.alloc [.str [], .nils, .nils]), []⟩, ⟨9, none, none, .e (.store (.tmp 8) (.tmp 27) 3), []⟩, ⟨10, (some 9), none, .p (.mv (.tmp 28)), []⟩] 11 [5, 7, 8]) (.seq (.seq (.ops [⟨0, (some 29), none, .p (.fld 1 (.tmp 8)), []⟩, ⟨1, (some 30), none, .r (.load false 1 (.tmp 29)), []⟩, ⟨2, (some 31), none, .p (.lenS false (.tmp 30)), []⟩, ⟨3, (some 32), none, .p (.mv (.const (.int .i64 0))), []⟩] 4 [5, 7, 30, 31, 32]) (.block 0 (.loop (.seq (.ops [⟨0, (some 33), none, .p (.bin .lss (.tmp 32) (.tmp 31)), []⟩] 1 [5, 7, 30, 31, 32, 33]) (.seq (.cond (.tmp 33) (.skip) (.exit 0)) (.seq (.block 1 (.seq (.ops [⟨0, (some 34), none, .p (.idx 3 (.tmp 30) (.tmp 32)), []⟩, ⟨1, (some 35), none, .r (.load true 3 (.tmp 34)), []⟩, ⟨2, (some 11), none, .l (.alloc [.str [], .str [], .str []]), []⟩, ⟨3, none, none, .e (.store (.tmp 11) (.tmp 35) 3), []⟩] 4 [5, 7, 11, 30, 31, 32]) (.ops [⟨0, (some 36), none, .p (.mv (.tmp 7)), []⟩, ⟨1, (some 37), none, .p (.fld 0 (.tmp 11)), []⟩, ⟨2, (some 38), none, .r (.load false 1 (.tmp 37)), []⟩, ⟨3, (some 39), none, .p (.fld 2 (.tmp 5)), []⟩, ⟨4, (some 40), none, .r (.load false 1 (.tmp 39)), []⟩, ⟨5, (some 41), none, .p (.build [.str [], .str []] [(0, 1, .tmp 38), (1, 1, .tmp 40)]), []⟩, ⟨6, (some 42), none, .p (.build [.str [], .str [], .int .i64 0] [(0, 2, .tmp 41), (2, 1, .const (.int .i64 0))]), []⟩, ⟨7, (some 43), none, .k { z := [.str [], .str [], .int .i64 0], len := 1, parts := [(0, .tmp 42)] }, []⟩, ⟨8, (some 44), none, .e (.append 3 40 (.tmp 36) (.tmp 43)), []⟩, ⟨9, (some 7), none, .p (.mv (.tmp 44)), []⟩] 10 [5, 7, 30, 31, 32]))) (.ops [⟨0, (some 45), none, .p (.bin .add (.tmp 32) (.const (.int .i64 1))), []⟩, ⟨1, (some 32), none, .p (.mv (.tmp 45)), []⟩] 2 [5, 7, 30, 31, 32]))))))) (.seq (.ops [⟨0, (some 46), none, .p (.mv (.tmp 7)), []⟩, ⟨1, (some 6), none, .p (.mv (.tmp 46)), []⟩] 2 [6]) (.ret)))))) }
def N122 : Notes := { note := fun _ => none, keep := fun | 10 => [6] | 9 => [5, 7, 30, 31, 32] | 8 => [5, 7, 30, 31, 32] | 7 => [5, 7, 11, 30, 31, 32] | 6 => [5, 7, 30, 31, 32, 33] | 5 => [5, 7, 30, 31, 32] | 4 => [5, 7, 8] | 3 => [0, 1, 5, 7] | 2 => [6] | 1 => [0, 1, 5, 14] | 0 => [0, 1, 5] | _ => [] }
theorem A122_ok : cFn Try.prog qf N122 Try.f122 = some A122 := by kernel_rfl
inductive W122 where
  | mk (x0 x1 x5 x6 x7 x8 x11 x14 x30 x31 x32 x33 : AV)
inductive V122 where
  | mk (x0 x1 x2 : AV)
def mo122 : W122 → Fr := fun ⟨x0, x1, x5, x6, x7, x8, x11, x14, x30, x31, x32, x33⟩ => [x0, x1, .top, .top, .top, x5, x6, x7, x8, .top, .top, x11, .top, .top, x14, .top, .top, .top, .top, .top, .top, .top, .top, .top, .top, .top, .top, .top, .top, .top, x30, x31, x32, x33, .top, .top, .top, .top, .top, .top, .top, .top, .top, .top, .top, .top, .top]
def mi122 : V122 → Fr := fun ⟨x0, x1, x2⟩ => [x0, x1, x2, .tup [], .tup [], .tup [], .tup [], .tup [], .tup [], .tup [], .tup [], .tup [], .tup [], .tup [], .tup [], .tup [], .tup [], .tup [], .tup [], .tup [], .tup [], .tup [], .tup [], .tup [], .tup [], .tup [], .tup [], .tup [], .tup [], .tup [], .tup [], .tup [], .tup [], .tup [], .tup [], .tup [], .tup [], .tup [], .tup [], .tup [], .tup [], .tup [], .tup [], .tup [], .tup [], .tup [], .tup []]
noncomputable def S122r0 {R : Type} (call : Nat → List AV → M AV) : V122 → Nat → AS → (W122 → AS → Option R) → Option R := @V122.rec (fun _ => Nat → AS → (W122 → AS → Option R) → Option R) fun x0 x1 x2 base s k =>
  bndO (newQ (base + 0) (boxB x2 (base + 0)) s) fun y0 s =>
  k (.mk x0 x1 y0 .top .top .top .top .top .top .top .top .top) s
noncomputable def S122r1 {R : Type} (call : Nat → List AV → M AV) : W122 → Nat → AS → (W122 → AS → Option R) → Option R := @W122.rec (fun _ => Nat → AS → (W122 → AS → Option R) → Option R) fun x0 x1 x5 x6 x7 x8 x11 x14 x30 x31 x32 x33 base s k =>
  bndP (fldA 0 x5) fun y0 =>
  bndP (loadQ false 1 y0 s.h) fun y1 =>
  bndP (binQ .eql y1 ((.int .i64 1) : AV)) fun y2 =>
  k (.mk x0 x1 x5 .top .top .top .top y2 .top .top .top .top) s
noncomputable def S122r2 {R : Type} (call : Nat → List AV → M AV) : W122 → Nat → AS → (W122 → AS → Option R) → Option R := @W122.rec (fun _ => Nat → AS → (W122 → AS → Option R) → Option R) fun x0 x1 x5 x6 x7 x8 x11 x14 x30 x31 x32 x33 base s k =>
  bndP (fldA 1 x5) fun y0 =>
  bndP (loadQ false 1 y0 s.h) fun y1 =>
  bndP (buildA [(.str []), (.str [])] [(0, 1, x1), (1, 1, y1)]) fun y2 =>
  bndP (buildA [(.str []), (.str []), (.int .i64 0)] [(0, 2, y2), (2, 1, ((.int .i64 0) : AV))]) fun y3 =>
  bndP (rowsA [(.str []), (.str []), (.int .i64 0)] 1 [(0, y3)]) fun y4 =>
  k (.mk .top .top .top y4 .top .top .top .top .top .top .top .top) s
noncomputable def S122r3 {R : Type} (call : Nat → List AV → M AV) : W122 → Nat → AS → (W122 → AS → Option R) → Option R := @W122.rec (fun _ => Nat → AS → (W122 → AS → Option R) → Option R) fun x0 x1 x5 x6 x7 x8 x11 x14 x30 x31 x32 x33 base s k =>
  k (.mk x0 x1 x5 .top (.nils : AV) .top .top .top .top .top .top .top) s
noncomputable def S122r4 {R : Type} (call : Nat → List AV → M AV) : W122 → Nat → AS → (W122 → AS → Option R) → Option R := @W122.rec (fun _ => Nat → AS → (W122 → AS → Option R) → Option R) fun x0 x1 x5 x6 x7 x8 x11 x14 x30 x31 x32 x33 base s k =>
  bndP (fldA 1 x5) fun y0 =>
  bndP (loadQ false 1 y0 s.h) fun y1 =>
  bndO (quietQ call 36 [x0, x1, y1] s) fun y2 s =>
  bndP (extrQ y2 0) fun y3 =>
  bndP (extrQ y2 1) fun y4 =>
  bndO (newQ (base + 8) (allocB [(.str []), .nils, .nils] (base + 8)) s) fun y5 s =>
  bndO (storeQ y5 y3 3 s) fun _ s =>
  k (.mk .top .top x5 .top x7 y5 .top .top .top .top .top .top) s
noncomputable def S122r5 {R : Type} (call : Nat → List AV → M AV) : W122 → Nat → AS → (W122 → AS → Option R) → Option R := @W122.rec (fun _ => Nat → AS → (W122 → AS → Option R) → Option R) fun x0 x1 x5 x6 x7 x8 x11 x14 x30 x31 x32 x33 base s k =>
  bndP (fldA 1 x8) fun y0 =>
  bndP (loadQ false 1 y0 s.h) fun y1 =>
  bndP (lenAQ false y1) fun y2 =>
  k (.mk .top .top x5 .top x7 .top .top .top y1 y2 ((.int .i64 0) : AV) .top) s
noncomputable def S122r6 {R : Type} (call : Nat → List AV → M AV) : W122 → Nat → AS → (W122 → AS → Option R) → Option R := @W122.rec (fun _ => Nat → AS → (W122 → AS → Option R) → Option R) fun x0 x1 x5 x6 x7 x8 x11 x14 x30 x31 x32 x33 base s k =>
  bndP (binQ .lss x32 x31) fun y0 =>
  k (.mk .top .top x5 .top x7 .top .top .top x30 x31 x32 y0) s
noncomputable def S122r7 {R : Type} (call : Nat → List AV → M AV) : W122 → Nat → AS → (W122 → AS → Option R) → Option R := @W122.rec (fun _ => Nat → AS → (W122 → AS → Option R) → Option R) fun x0 x1 x5 x6 x7 x8 x11 x14 x30 x31 x32 x33 base s k =>
  bndP (idxQ 3 x30 x32) fun y0 =>
  bndP (loadQ true 3 y0 s.h) fun y1 =>
  bndO (newQ (base + 2) (allocB [(.str []), (.str []), (.str [])] (base + 2)) s) fun y2 s =>
  bndO (storeQ y2 y1 3 s) fun _ s =>
  k (.mk .top .top x5 .top x7 .top y2 .top x30 x31 x32 .top) s
noncomputable def S122r8 {R : Type} (call : Nat → List AV → M AV) : W122 → Nat → AS → (W122 → AS → Option R) → Option R := @W122.rec (fun _ => Nat → AS → (W122 → AS → Option R) → Option R) fun x0 x1 x5 x6 x7 x8 x11 x14 x30 x31 x32 x33 base s k =>
  bndP (fldA 0 x11) fun y0 =>
  bndP (loadQ false 1 y0 s.h) fun y1 =>
  bndP (fldA 2 x5) fun y2 =>
  bndP (loadQ false 1 y2 s.h) fun y3 =>
  bndP (buildA [(.str []), (.str [])] [(0, 1, y1), (1, 1, y3)]) fun y4 =>
  bndP (buildA [(.str []), (.str []), (.int .i64 0)] [(0, 2, y4), (2, 1, ((.int .i64 0) : AV))]) fun y5 =>
  bndP (rowsA [(.str []), (.str []), (.int .i64 0)] 1 [(0, y5)]) fun y6 =>
  bndO (appQ (base + 8) 3 40 x7 y6 s) fun y7 s =>
  k (.mk .top .top x5 .top y7 .top .top .top x30 x31 x32 .top) s
noncomputable def S122r9 {R : Type} (call : Nat → List AV → M AV) : W122 → Nat → AS → (W122 → AS → Option R) → Option R := @W122.rec (fun _ => Nat → AS → (W122 → AS → Option R) → Option R) fun x0 x1 x5 x6 x7 x8 x11 x14 x30 x31 x32 x33 base s k =>
  bndP (binQ .add x32 ((.int .i64 1) : AV)) fun y0 =>
  k (.mk .top .top x5 .top x7 .top .top .top x30 x31 y0 .top) s
noncomputable def S122b10 {R : Type} (call : Nat → List AV → M AV) (fuel : Nat) : SC W122 W122 R := sSeq (sReg 1 (S122r6 call)) (sSeq (sCond (@W122.rec (fun _ => AV) fun _ _ _ _ _ _ _ _ _ _ _ x33 => x33) (sSkip) (sExit 0)) (sSeq (sBlock 1 (sSeq (sReg 4 (S122r7 call)) (sReg 10 (S122r8 call)))) (sReg 2 (S122r9 call))))
noncomputable def S122r11 {R : Type} (call : Nat → List AV → M AV) : W122 → Nat → AS → (W122 → AS → Option R) → Option R := @W122.rec (fun _ => Nat → AS → (W122 → AS → Option R) → Option R) fun x0 x1 x5 x6 x7 x8 x11 x14 x30 x31 x32 x33 base s k =>
  k (.mk .top .top .top x7 .top .top .top .top .top .top .top .top) s
noncomputable def S122c {R : Type} (call : Nat → List AV → M AV) (fuel : Nat) : SC V122 W122 R := sSeq (sReg 2 (S122r0 call)) (sSeq (sSeq (sReg 3 (S122r1 call)) (sCond (@W122.rec (fun _ => AV) fun _ _ _ _ _ _ _ x14 _ _ _ _ => x14) (sSeq (sReg 7 (S122r2 call)) (sRet)) (sSkip))) (sSeq (sReg 1 (S122r3 call)) (sSeq (sReg 11 (S122r4 call)) (sSeq (sSeq (sReg 4 (S122r5 call)) (sBlock 0 (sLoop fuel (S122b10 call fuel)))) (sSeq (sReg 2 (S122r11 call)) (sRet))))))
noncomputable def S122e : Ex → W122 → AS → Option (AV × AS) := fun e w s => (@W122.rec (fun _ => Option (AV × AS)) fun _ _ _ x6 _ _ _ _ _ _ _ _ => @Ex.rec (fun _ => Option (AV × AS)) (some (x6, s)) (fun _ => none) (some (x6, s)) e) w
noncomputable def S122 (call : Nat → List AV → M AV) (fuel : Nat) (args : List AV) (s : AS) : Option (AV × AS) := match args with
  | [x0, x1, x2] => S122c call fuel (.mk x0 x1 x2) s S122e
  | _ => none
theorem S122_sim (call : Nat → List AV → M AV) (fuel : Nat) : Sim (R := AV × AS) call fuel mi122 mo122 A122.code (S122c call fuel) := by
  refine sim_seq (sim_reg (fun ⟨x0, x1, x2⟩ _ _ _ => by kernel_rfl)) (sim_seq (sim_seq (sim_reg (fun ⟨x0, x1, x5, x6, x7, x8, x11, x14, x30, x31, x32, x33⟩ _ _ _ => by kernel_rfl)) (sim_cond (fun ⟨x0, x1, x5, x6, x7, x8, x11, x14, x30, x31, x32, x33⟩ => by kernel_rfl) (sim_seq (sim_reg (fun ⟨x0, x1, x5, x6, x7, x8, x11, x14, x30, x31, x32, x33⟩ _ _ _ => by kernel_rfl)) (sim_ret)) (sim_skip))) (sim_seq (sim_reg (fun ⟨x0, x1, x5, x6, x7, x8, x11, x14, x30, x31, x32, x33⟩ _ _ _ => by kernel_rfl)) (sim_seq (sim_reg (fun ⟨x0, x1, x5, x6, x7, x8, x11, x14, x30, x31, x32, x33⟩ _ _ _ => by kernel_rfl)) (sim_seq (sim_seq (sim_reg (fun ⟨x0, x1, x5, x6, x7, x8, x11, x14, x30, x31, x32, x33⟩ _ _ _ => by kernel_rfl)) (sim_block (sim_loop (sim_seq (sim_reg (fun ⟨x0, x1, x5, x6, x7, x8, x11, x14, x30, x31, x32, x33⟩ _ _ _ => by kernel_rfl)) (sim_seq (sim_cond (fun ⟨x0, x1, x5, x6, x7, x8, x11, x14, x30, x31, x32, x33⟩ => by kernel_rfl) (sim_skip) (sim_exit)) (sim_seq (sim_block (sim_seq (sim_reg (fun ⟨x0, x1, x5, x6, x7, x8, x11, x14, x30, x31, x32, x33⟩ _ _ _ => by kernel_rfl)) (sim_reg (fun ⟨x0, x1, x5, x6, x7, x8, x11, x14, x30, x31, x32, x33⟩ _ _ _ => by kernel_rfl)))) (sim_reg (fun ⟨x0, x1, x5, x6, x7, x8, x11, x14, x30, x31, x32, x33⟩ _ _ _ => by kernel_rfl)))))))) (sim_seq (sim_reg (fun ⟨x0, x1, x5, x6, x7, x8, x11, x14, x30, x31, x32, x33⟩ _ _ _ => by kernel_rfl)) (sim_ret))))))
theorem S122_ok (call : Nat → List AV → M AV) (fuel : Nat) (args : List AV) (s : AS) : afn call fuel A122 args s = S122 call fuel args s := by
  rcases args with _ | ⟨x0, _ | ⟨x1, _ | ⟨x2, _ | ⟨x3, r⟩⟩⟩⟩
  · kernel_rfl
  · kernel_rfl
  · kernel_rfl
  · exact (afn_sim (S122_sim call fuel) (v := (.mk x0 x1 x2)) (e2 := S122e) (by kernel_rfl) (by kernel_rfl) (fun e w s => by cases w; cases e <;> kernel_rfl)).trans (by kernel_rfl)
  · kernel_rfl
def A123 : AFn := { nargs := 1, ntmps := 8, res := [.tmp 2], code := .seq (.ops [⟨0, (some 2), none, .p (.mv (.const (.nils))), []⟩] 1 [0]) (.seq (.seq (.ops [⟨0, (some 3), none, .p (.mv (.tmp 0)), []⟩, ⟨1, (some 4), none, .p (.eqnil false 0 (.tmp 3) (.const (.nils))), []⟩] 2 [0, 4]) (.cond (.tmp 4) (.seq (.ops [⟨0, (some 2), none, .p (.mv (.const (.nils))), []⟩] 1 [2]) (.ret)) (.skip))) (.seq (.ops [⟨0, (some 5), none, .k { z := [.str [], .str [], .int .i64 0], len := 0, parts := [] }, []⟩, ⟨1, (some 6), none, .p (.mv (.tmp 0)), []⟩, ⟨2, (some 7), none, .e (.append 3 40 (.tmp 5) (.tmp 6)), []⟩, ⟨3, (some 2), none, .p (.mv (.tmp 7)), []⟩] 4 [2]) (.ret))) }
def N123 : Notes := { note := fun _ => none, keep := fun | 3 => [2] | 2 => [2] | 1 => [0, 4] | 0 => [0] | _ => [] }
theorem A123_ok : cFn Try.prog qf N123 Try.f123 = some A123 := by kernel_rfl
inductive W123 where
  | mk (x0 x2 x4 : AV)
abbrev V123 := AV
def mo123 : W123 → Fr := fun ⟨x0, x2, x4⟩ => [x0, .top, x2, .top, x4, .top, .top, .top]
def mi123 : V123 → Fr := fun x0 => [x0, .tup [], .tup [], .tup [], .tup [], .tup [], .tup [], .tup []]
noncomputable def S123r0 {R : Type} (call : Nat → List AV → M AV) : V123 → Nat → AS → (W123 → AS → Option R) → Option R := fun x0 base s k =>
  k (.mk x0 .top .top) s
noncomputable def S123r1 {R : Type} (call : Nat → List AV → M AV) : W123 → Nat → AS → (W123 → AS → Option R) → Option R := @W123.rec (fun _ => Nat → AS → (W123 → AS → Option R) → Option R) fun x0 x2 x4 base s k =>
  bndP (eqnilA false 0 x0 (.nils : AV)) fun y0 =>
  k (.mk x0 .top y0) s
noncomputable def S123r2 {R : Type} (call : Nat → List AV → M AV) : W123 → Nat → AS → (W123 → AS → Option R) → Option R := @W123.rec (fun _ => Nat → AS → (W123 → AS → Option R) → Option R) fun x0 x2 x4 base s k =>
  k (.mk .top (.nils : AV) .top) s
noncomputable def S123r3 {R : Type} (call : Nat → List AV → M AV) : W123 → Nat → AS → (W123 → AS → Option R) → Option R := @W123.rec (fun _ => Nat → AS → (W123 → AS → Option R) → Option R) fun x0 x2 x4 base s k =>
  bndP (rowsA [(.str []), (.str []), (.int .i64 0)] 0 []) fun y0 =>
  bndO (appQ (base + 2) 3 40 y0 x0 s) fun y1 s =>
  k (.mk .top y1 .top) s
noncomputable def S123c {R : Type} (call : Nat → List AV → M AV) (fuel : Nat) : SC V123 W123 R := sSeq (sReg 1 (S123r0 call)) (sSeq (sSeq (sReg 2 (S123r1 call)) (sCond (@W123.rec (fun _ => AV) fun _ _ x4 => x4) (sSeq (sReg 1 (S123r2 call)) (sRet)) (sSkip))) (sSeq (sReg 4 (S123r3 call)) (sRet)))
noncomputable def S123e : Ex → W123 → AS → Option (AV × AS) := fun e w s => (@W123.rec (fun _ => Option (AV × AS)) fun _ x2 _ => @Ex.rec (fun _ => Option (AV × AS)) (some (x2, s)) (fun _ => none) (some (x2, s)) e) w
noncomputable def S123 (call : Nat → List AV → M AV) (fuel : Nat) (args : List AV) (s : AS) : Option (AV × AS) := match args with
  | [x0] => S123c call fuel x0 s S123e
  | _ => none
theorem S123_sim (call : Nat → List AV → M AV) (fuel : Nat) : Sim (R := AV × AS) call fuel mi123 mo123 A123.code (S123c call fuel) := by
  refine sim_seq (sim_reg (fun x0 _ _ _ => by kernel_rfl)) (sim_seq (sim_seq (sim_reg (fun ⟨x0, x2, x4⟩ _ _ _ => by kernel_rfl)) (sim_cond (fun ⟨x0, x2, x4⟩ => by kernel_rfl) (sim_seq (sim_reg (fun ⟨x0, x2, x4⟩ _ _ _ => by kernel_rfl)) (sim_ret)) (sim_skip))) (sim_seq (sim_reg (fun ⟨x0, x2, x4⟩ _ _ _ => by kernel_rfl)) (sim_ret)))
theorem S123_ok (call : Nat → List AV → M AV) (fuel : Nat) (args : List AV) (s : AS) : afn call fuel A123 args s = S123 call fuel args s := by
  rcases args with _ | ⟨x0, _ | ⟨x1, r⟩⟩
  · kernel_rfl
  · exact (afn_sim (S123_sim call fuel) (v := x0) (e2 := S123e) (by kernel_rfl) (by kernel_rfl) (fun e w s => by cases w; cases e <;> kernel_rfl)).trans (by kernel_rfl)
  · kernel_rfl
def A124 : AFn := { nargs := 1, ntmps := 36, res := [.tmp 2], code := .seq (.ops [⟨0, (some 2), none, .p (.mv (.const (.nils))), []⟩] 1 [0]) (.seq (.ops [⟨0, (some 3), none, .p (.mv (.const (.int .i64 0))), []⟩] 1 [0, 3]) (.seq (.seq (.ops [⟨0, (some 9), none, .p (.mv (.tmp 0)), []⟩, ⟨1, (some 10), none, .p (.lenS false (.tmp 9)), []⟩, ⟨2, (some 11), none, .p (.mv (.const (.int .i64 0))), []⟩] 3 [0, 3, 9, 10, 11]) (.block 0 (.loop (.seq (.ops [⟨0, (some 12), none, .p (.bin .lss (.tmp 11) (.tmp 10)), []⟩] 1 [0, 3, 9, 10, 11, 12]) (.seq (.cond (.tmp 12) (.skip) (.exit 0)) (.seq (.block 1 (.seq (.ops [⟨0, (some 13), none, .p (.idx 1 (.tmp 9) (.tmp 11)), []⟩, ⟨1, (some 14), none, .r (.load false 1 (.tmp 13)), []⟩, ⟨2, (some 5), none, .p (.mv (.tmp 14)), []⟩] 3 [0, 3, 5, 9, 10, 11]) (.seq (.ops [⟨0, (some 15), none, .p (.mv (.tmp 3)), []⟩, ⟨1, (some 16), none, .p (.mv (.tmp 5)), []⟩, ⟨2, (some 17), none, .p (.lenS false (.tmp 16)), []⟩, ⟨3, (some 18), none, .p (.bin .add (.tmp 15) (.tmp 17)), []⟩, ⟨4, (some 3), none, .p (.mv (.tmp 18)), []⟩] 5 [0, 3, 9, 10, 11]) (.seq (.ops [⟨0, (some 19), none, .p (.mv (.tmp 3)), []⟩, ⟨1, (some 20), none, .p (.bin .lss (.tmp 19) (.const (.int .i64 0))), []⟩] 2 [0, 3, 9, 10, 11, 20]) (.cond (.tmp 20) (.ops [⟨0, (some 21), none, .e .bad, []⟩, ⟨1, none, none, .e .bad, []⟩] 2 [0, 3, 9, 10, 11]) (.skip)))))) (.ops [⟨0, (some 22), none, .p (.bin .add (.tmp 11) (.const (.int .i64 1))), []⟩, ⟨1, (some 11), none, .p (.mv (.tmp 22)), []⟩] 2 [0, 3, 9, 10, 11]))))))) (.seq (.ops [⟨0, (some 23), none, .p (.mv (.tmp 3)), []⟩, ⟨1, (some 24), none, .e (.call false 129 [.const (.nils), .tmp 23]), []⟩, ⟨2, (some 6), none, .p (.mv (.tmp 24)), []⟩] 3 [0, 6]) (.seq (.seq (.ops [⟨0, (some 25), none, .p (.mv (.tmp 0)), []⟩, ⟨1, (some 26), none, .p (.lenS false (.tmp 25)), []⟩, ⟨2, (some 27), none, .p (.mv (.const (.int .i64 0))), []⟩] 3 [6, 25, 26, 27]) (.block 2 (.loop (.seq (.ops [⟨0, (some 28), none, .p (.bin .lss (.tmp 27) (.tmp 26)), []⟩] 1 [6, 25, 26, 27, 28]) (.seq (.cond (.tmp 28) (.skip) (.exit 2)) (.seq (.block 3 (.seq (.ops [⟨0, (some 29), none, .p (.idx 1 (.tmp 25) (.tmp 27)), []⟩, ⟨1, (some 30), none, .r (.load false 1 (.tmp 29)), []⟩, ⟨2, (some 8), none, .p (.mv (.tmp 30)), []⟩] 3 [6, 8, 25, 26, 27]) (.ops [⟨0, (some 31), none, .p (.mv (.tmp 6)), []⟩, ⟨1, (some 32), none, .p (.mv (.tmp 8)), []⟩, ⟨2, (some 33), none, .e (.append 3 40 (.tmp 31) (.tmp 32)), []⟩, ⟨3, (some 6), none, .p (.mv (.tmp 33)), []⟩] 4 [6, 25, 26, 27]))) (.ops [⟨0, (some 34), none, .p (.bin .add (.tmp 27) (.const (.int .i64 1))), []⟩, ⟨1, (some 27), none, .p (.mv (.tmp 34)), []⟩] 2 [6, 25, 26, 27]))))))) (.seq (.ops [⟨0, (some 35), none, .p (.mv (.tmp 6)), []⟩, ⟨1, (some 2), none, .p (.mv (.tmp 35)), []⟩] 2 [2]) (.ret)))))) }
def N124 : Notes := { note := fun _ => none, keep := fun | 15 => [2] | 14 => [6, 25, 26, 27] | 13 => [6, 25, 26, 27] | 12 => [6, 8, 25, 26, 27] | 11 => [6, 25, 26, 27, 28] | 10 => [6, 25, 26, 27] | 9 => [0, 6] | 8 => [0, 3, 9, 10, 11] | 7 => [0, 3, 9, 10, 11] | 6 => [0, 3, 9, 10, 11, 20] | 5 => [0, 3, 9, 10, 11] | 4 => [0, 3, 5, 9, 10, 11] | 3 => [0, 3, 9, 10, 11, 12] | 2 => [0, 3, 9, 10, 11] | 1 => [0, 3] | 0 => [0] | _ => [] }
theorem A124_ok : cFn Try.prog qf N124 Try.f124 = some A124 := by kernel_rfl
inductive W124 where
  | mk (x0 x2 x3 x5 x6 x8 x9 x10 x11 x12 x20 x25 x26 x27 x28 : AV)
abbrev V124 := AV
def mo124 : W124 → Fr := fun ⟨x0, x2, x3, x5, x6, x8, x9, x10, x11, x12, x20, x25, x26, x27, x28⟩ => [x0, .top, x2, x3, .top, x5, x6, .top, x8, x9, x10, x11, x12, .top, .top, .top, .top, .top, .top, .top, x20, .top, .top, .top, .top, x25, x26, x27, x28, .top, .top, .top, .top, .top, .top, .top]
def mi124 : V124 → Fr := fun x0 => [x0, .tup [], .tup [], .tup [], .tup [], .tup [], .tup [], .tup [], .tup [], .tup [], .tup [], .tup [], .tup [], .tup [], .tup [], .tup [], .tup [], .tup [], .tup [], .tup [], .tup [], .tup [], .tup [], .tup [], .tup [], .tup [], .tup [], .tup [], .tup [], .tup [], .tup [], .tup [], .tup [], .tup [], .tup [], .tup []]
noncomputable def S124r0 {R : Type} (call : Nat → List AV → M AV) : V124 → Nat → AS → (W124 → AS → Option R) → Option R := fun x0 base s k =>
  k (.mk x0 .top .top .top .top .top .top .top .top .top .top .top .top .top .top) s
noncomputable def S124r1 {R : Type} (call : Nat → List AV → M AV) : W124 → Nat → AS → (W124 → AS → Option R) → Option R := @W124.rec (fun _ => Nat → AS → (W124 → AS → Option R) → Option R) fun x0 x2 x3 x5 x6 x8 x9 x10 x11 x12 x20 x25 x26 x27 x28 base s k =>
  k (.mk x0 .top ((.int .i64 0) : AV) .top .top .top .top .top .top .top .top .top .top .top .top) s
noncomputable def S124r2 {R : Type} (call : Nat → List AV → M AV) : W124 → Nat → AS → (W124 → AS → Option R) → Option R := @W124.rec (fun _ => Nat → AS → (W124 → AS → Option R) → Option R) fun x0 x2 x3 x5 x6 x8 x9 x10 x11 x12 x20 x25 x26 x27 x28 base s k =>
  bndP (lenAQ false x0) fun y0 =>
  k (.mk x0 .top x3 .top .top .top x0 y0 ((.int .i64 0) : AV) .top .top .top .top .top .top) s
noncomputable def S124r3 {R : Type} (call : Nat → List AV → M AV) : W124 → Nat → AS → (W124 → AS → Option R) → Option R := @W124.rec (fun _ => Nat → AS → (W124 → AS → Option R) → Option R) fun x0 x2 x3 x5 x6 x8 x9 x10 x11 x12 x20 x25 x26 x27 x28 base s k =>
  bndP (binQ .lss x11 x10) fun y0 =>
  k (.mk x0 .top x3 .top .top .top x9 x10 x11 y0 .top .top .top .top .top) s
noncomputable def S124r4 {R : Type} (call : Nat → List AV → M AV) : W124 → Nat → AS → (W124 → AS → Option R) → Option R := @W124.rec (fun _ => Nat → AS → (W124 → AS → Option R) → Option R) fun x0 x2 x3 x5 x6 x8 x9 x10 x11 x12 x20 x25 x26 x27 x28 base s k =>
  bndP (idxQ 1 x9 x11) fun y0 =>
  bndP (loadQ false 1 y0 s.h) fun y1 =>
  k (.mk x0 .top x3 y1 .top .top x9 x10 x11 .top .top .top .top .top .top) s
noncomputable def S124r5 {R : Type} (call : Nat → List AV → M AV) : W124 → Nat → AS → (W124 → AS → Option R) → Option R := @W124.rec (fun _ => Nat → AS → (W124 → AS → Option R) → Option R) fun x0 x2 x3 x5 x6 x8 x9 x10 x11 x12 x20 x25 x26 x27 x28 base s k =>
  bndP (lenAQ false x5) fun y0 =>
  bndP (binQ .add x3 y0) fun y1 =>
  k (.mk x0 .top y1 .top .top .top x9 x10 x11 .top .top .top .top .top .top) s
noncomputable def S124r6 {R : Type} (call : Nat → List AV → M AV) : W124 → Nat → AS → (W124 → AS → Option R) → Option R := @W124.rec (fun _ => Nat → AS → (W124 → AS → Option R) → Option R) fun x0 x2 x3 x5 x6 x8 x9 x10 x11 x12 x20 x25 x26 x27 x28 base s k =>
  bndP (binQ .lss x3 ((.int .i64 0) : AV)) fun y0 =>
  k (.mk x0 .top x3 .top .top .top x9 x10 x11 .top y0 .top .top .top .top) s
noncomputable def S124r7 {R : Type} (call : Nat → List AV → M AV) : W124 → Nat → AS → (W124 → AS → Option R) → Option R := @W124.rec (fun _ => Nat → AS → (W124 → AS → Option R) → Option R) fun x0 x2 x3 x5 x6 x8 x9 x10 x11 x12 x20 x25 x26 x27 x28 base s k =>
  bndO (none) fun y0 s =>
  bndO (none) fun _ s =>
  k (.mk x0 .top x3 .top .top .top x9 x10 x11 .top .top .top .top .top .top) s
noncomputable def S124r8 {R : Type} (call : Nat → List AV → M AV) : W124 → Nat → AS → (W124 → AS → Option R) → Option R := @W124.rec (fun _ => Nat → AS → (W124 → AS → Option R) → Option R) fun x0 x2 x3 x5 x6 x8 x9 x10 x11 x12 x20 x25 x26 x27 x28 base s k =>
  bndP (binQ .add x11 ((.int .i64 1) : AV)) fun y0 =>
  k (.mk x0 .top x3 .top .top .top x9 x10 y0 .top .top .top .top .top .top) s
noncomputable def S124b9 {R : Type} (call : Nat → List AV → M AV) (fuel : Nat) : SC W124 W124 R := sSeq (sReg 1 (S124r3 call)) (sSeq (sCond (@W124.rec (fun _ => AV) fun _ _ _ _ _ _ _ _ _ x12 _ _ _ _ _ => x12) (sSkip) (sExit 0)) (sSeq (sBlock 1 (sSeq (sReg 3 (S124r4 call)) (sSeq (sReg 5 (S124r5 call)) (sSeq (sReg 2 (S124r6 call)) (sCond (@W124.rec (fun _ => AV) fun _ _ _ _ _ _ _ _ _ _ x20 _ _ _ _ => x20) (sReg 2 (S124r7 call)) (sSkip)))))) (sReg 2 (S124r8 call))))
noncomputable def S124r10 {R : Type} (call : Nat → List AV → M AV) : W124 → Nat → AS → (W124 → AS → Option R) → Option R := @W124.rec (fun _ => Nat → AS → (W124 → AS → Option R) → Option R) fun x0 x2 x3 x5 x6 x8 x9 x10 x11 x12 x20 x25 x26 x27 x28 base s k =>
  bndO (call 129 [(.nils : AV), x3] s) fun y0 s =>
  k (.mk x0 .top .top .top y0 .top .top .top .top .top .top .top .top .top .top) s
noncomputable def S124r11 {R : Type} (call : Nat → List AV → M AV) : W124 → Nat → AS → (W124 → AS → Option R) → Option R := @W124.rec (fun _ => Nat → AS → (W124 → AS → Option R) → Option R) fun x0 x2 x3 x5 x6 x8 x9 x10 x11 x12 x20 x25 x26 x27 x28 base s k =>
  bndP (lenAQ false x0) fun y0 =>
  k (.mk .top .top .top .top x6 .top .top .top .top .top .top x0 y0 ((.int .i64 0) : AV) .top) s
noncomputable def S124r12 {R : Type} (call : Nat → List AV → M AV) : W124 → Nat → AS → (W124 → AS → Option R) → Option R := @W124.rec (fun _ => Nat → AS → (W124 → AS → Option R) → Option R) fun x0 x2 x3 x5 x6 x8 x9 x10 x11 x12 x20 x25 x26 x27 x28 base s k =>
  bndP (binQ .lss x27 x26) fun y0 =>
  k (.mk .top .top .top .top x6 .top .top .top .top .top .top x25 x26 x27 y0) s
noncomputable def S124r13 {R : Type} (call : Nat → List AV → M AV) : W124 → Nat → AS → (W124 → AS → Option R) → Option R := @W124.rec (fun _ => Nat → AS → (W124 → AS → Option R) → Option R) fun x0 x2 x3 x5 x6 x8 x9 x10 x11 x12 x20 x25 x26 x27 x28 base s k =>
  bndP (idxQ 1 x25 x27) fun y0 =>
  bndP (loadQ false 1 y0 s.h) fun y1 =>
  k (.mk .top .top .top .top x6 y1 .top .top .top .top .top x25 x26 x27 .top) s
noncomputable def S124r14 {R : Type} (call : Nat → List AV → M AV) : W124 → Nat → AS → (W124 → AS → Option R) → Option R := @W124.rec (fun _ => Nat → AS → (W124 → AS → Option R) → Option R) fun x0 x2 x3 x5 x6 x8 x9 x10 x11 x12 x20 x25 x26 x27 x28 base s k =>
  bndO (appQ (base + 2) 3 40 x6 x8 s) fun y0 s =>
  k (.mk .top .top .top .top y0 .top .top .top .top .top .top x25 x26 x27 .top) s
noncomputable def S124r15 {R : Type} (call : Nat → List AV → M AV) : W124 → Nat → AS → (W124 → AS → Option R) → Option R := @W124.rec (fun _ => Nat → AS → (W124 → AS → Option R) → Option R) fun x0 x2 x3 x5 x6 x8 x9 x10 x11 x12 x20 x25 x26 x27 x28 base s k =>
  bndP (binQ .add x27 ((.int .i64 1) : AV)) fun y0 =>
  k (.mk .top .top .top .top x6 .top .top .top .top .top .top x25 x26 y0 .top) s
noncomputable def S124b16 {R : Type} (call : Nat → List AV → M AV) (fuel : Nat) : SC W124 W124 R := sSeq (sReg 1 (S124r12 call)) (sSeq (sCond (@W124.rec (fun _ => AV) fun _ _ _ _ _ _ _ _ _ _ _ _ _ _ x28 => x28) (sSkip) (sExit 2)) (sSeq (sBlock 3 (sSeq (sReg 3 (S124r13 call)) (sReg 4 (S124r14 call)))) (sReg 2 (S124r15 call))))
noncomputable def S124r17 {R : Type} (call : Nat → List AV → M AV) : W124 → Nat → AS → (W124 → AS → Option R) → Option R := @W124.rec (fun _ => Nat → AS → (W124 → AS → Option R) → Option R) fun x0 x2 x3 x5 x6 x8 x9 x10 x11 x12 x20 x25 x26 x27 x28 base s k =>
  k (.mk .top x6 .top .top .top .top .top .top .top .top .top .top .top .top .top) s
noncomputable def S124c {R : Type} (call : Nat → List AV → M AV) (fuel : Nat) : SC V124 W124 R := sSeq (sReg 1 (S124r0 call)) (sSeq (sReg 1 (S124r1 call)) (sSeq (sSeq (sReg 3 (S124r2 call)) (sBlock 0 (sLoop fuel (S124b9 call fuel)))) (sSeq (sReg 3 (S124r10 call)) (sSeq (sSeq (sReg 3 (S124r11 call)) (sBlock 2 (sLoop fuel (S124b16 call fuel)))) (sSeq (sReg 2 (S124r17 call)) (sRet))))))
noncomputable def S124e : Ex → W124 → AS → Option (AV × AS) := fun e w s => (@W124.rec (fun _ => Option (AV × AS)) fun _ x2 _ _ _ _ _ _ _ _ _ _ _ _ _ => @Ex.rec (fun _ => Option (AV × AS)) (some (x2, s)) (fun _ => none) (some (x2, s)) e) w
noncomputable def S124 (call : Nat → List AV → M AV) (fuel : Nat) (args : List AV) (s : AS) : Option (AV × AS) := match args with
  | [x0] => S124c call fuel x0 s S124e
  | _ => none
theorem S124_sim (call : Nat → List AV → M AV) (fuel : Nat) : Sim (R := AV × AS) call fuel mi124 mo124 A124.code (S124c call fuel) := by
  refine sim_seq (sim_reg (fun x0 _ _ _ => by kernel_rfl)) (sim_seq (sim_reg (fun ⟨x0, x2, x3, x5, x6, x8, x9, x10, x11, x12, x20, x25, x26, x27, x28⟩ _ _ _ => by kernel_rfl)) (sim_seq (sim_seq (sim_reg (fun ⟨x0, x2, x3, x5, x6, x8, x9, x10, x11, x12, x20, x25, x26, x27, x28⟩ _ _ _ => by kernel_rfl)) (sim_block (sim_loop (sim_seq (sim_reg (fun ⟨x0, x2, x3, x5, x6, x8, x9, x10, x11, x12, x20, x25, x26, x27, x28⟩ _ _ _ => by kernel_rfl)) (sim_seq (sim_cond (fun ⟨x0, x2, x3, x5, x6, x8, x9, x10, x11, x12, x20, x25, x26, x27, x28⟩ => by kernel_rfl) (sim_skip) (sim_exit)) (sim_seq (sim_block (sim_seq (sim_reg (fun ⟨x0, x2, x3, x5, x6, x8, x9, x10, x11, x12, x20, x25, x26, x27, x28⟩ _ _ _ => by kernel_rfl)) (sim_seq (sim_reg (fun ⟨x0, x2, x3, x5, x6, x8, x9, x10, x11, x12, x20, x25, x26, x27, x28⟩ _ _ _ => by kernel_rfl)) (sim_seq (sim_reg (fun ⟨x0, x2, x3, x5, x6, x8, x9, x10, x11, x12, x20, x25, x26, x27, x28⟩ _ _ _ => by kernel_rfl)) (sim_cond (fun ⟨x0, x2, x3, x5, x6, x8, x9, x10, x11, x12, x20, x25, x26, x27, x28⟩ => by kernel_rfl) (sim_reg (fun ⟨x0, x2, x3, x5, x6, x8, x9, x10, x11, x12, x20, x25, x26, x27, x28⟩ _ _ _ => by kernel_rfl)) (sim_skip)))))) (sim_reg (fun ⟨x0, x2, x3, x5, x6, x8, x9, x10, x11, x12, x20, x25, x26, x27, x28⟩ _ _ _ => by kernel_rfl)))))))) (sim_seq (sim_reg (fun ⟨x0, x2, x3, x5, x6, x8, x9, x10, x11, x12, x20, x25, x26, x27, x28⟩ _ _ _ => by kernel_rfl)) (sim_seq (sim_seq (sim_reg (fun ⟨x0, x2, x3, x5, x6, x8, x9, x10, x11, x12, x20, x25, x26, x27, x28⟩ _ _ _ => by kernel_rfl)) (sim_block (sim_loop (sim_seq (sim_reg (fun ⟨x0, x2, x3, x5, x6, x8, x9, x10, x11, x12, x20, x25, x26, x27, x28⟩ _ _ _ => by kernel_rfl)) (sim_seq (sim_cond (fun ⟨x0, x2, x3, x5, x6, x8, x9, x10, x11, x12, x20, x25, x26, x27, x28⟩ => by kernel_rfl) (sim_skip) (sim_exit)) (sim_seq (sim_block (sim_seq (sim_reg (fun ⟨x0, x2, x3, x5, x6, x8, x9, x10, x11, x12, x20, x25, x26, x27, x28⟩ _ _ _ => by kernel_rfl)) (sim_reg (fun ⟨x0, x2, x3, x5, x6, x8, x9, x10, x11, x12, x20, x25, x26, x27, x28⟩ _ _ _ => by kernel_rfl)))) (sim_reg (fun ⟨x0, x2, x3, x5, x6, x8, x9, x10, x11, x12, x20, x25, x26, x27, x28⟩ _ _ _ => by kernel_rfl)))))))) (sim_seq (sim_reg (fun ⟨x0, x2, x3, x5, x6, x8, x9, x10, x11, x12, x20, x25, x26, x27, x28⟩ _ _ _ => by kernel_rfl)) (sim_ret))))))
theorem S124_ok (call : Nat → List AV → M AV) (fuel : Nat) (args : List AV) (s : AS) : afn call fuel A124 args s = S124 call fuel args s := by
  rcases args with _ | ⟨x0, _ | ⟨x1, r⟩⟩
  · kernel_rfl
  · exact (afn_sim (S124_sim call fuel) (v := x0) (e2 := S124e) (by kernel_rfl) (by kernel_rfl) (fun e w s => by cases w; cases e <;> kernel_rfl)).trans (by kernel_rfl)
  · kernel_rfl
end Go.Proofs.Ytgcciohenncplaa.Ai
