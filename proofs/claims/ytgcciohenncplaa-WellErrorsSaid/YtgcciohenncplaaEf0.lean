/- Functions told without frames, and that they answer as the code does. -/
import Derived.Test.YtgcciohenncplaaAi26
set_option linter.all false
namespace Go.Proofs.Ytgcciohenncplaa.Ai
def nq : List Nat := [28, 35, 50, 56, 58, 59, 60, 61, 66, 68, 69, 71, 72, 74, 75, 80, 90, 91, 92, 101, 106, 110, 111, 112, 113, 114, 116, 121, 123, 124, 125, 129, 146]
def qf (f : Nat) : Bool := !(nq.contains f)
def A6 : AFn := { nargs := 1, ntmps := 58, res := [.tmp 2], code := .seq (.ops [⟨0, (some 2), none, .p (.mv (.const (.bool false))), []⟩] 1 [0]) (.seq (.ops [⟨0, (some 6), none, .p (.build [.str [], .int .i64 0] [(0, 1, .const (.str [])), (1, 1, .const (.int .i64 0))]), []⟩, ⟨1, (some 7), none, .p (.build [.str [], .int .i64 0] [(0, 1, .const (.str [116, 121, 112, 101, 32, 97, 32, 116, 121, 112, 101, 32, 97])), (1, 1, .const (.int .i64 11))]), []⟩, ⟨2, (some 8), none, .p (.build [.str [], .int .i64 0] [(0, 1, .const (.str [116, 121, 112, 101, 32, 97, 32, 123, 32, 114, 58, 32, 97, 59, 32, 114, 58, 32, 97, 59, 32, 125])), (1, 1, .const (.int .i64 11))]), []⟩, ⟨3, (some 9), none, .p (.build [.str [], .int .i64 0] [(0, 1, .const (.str [116, 121, 112, 101, 32, 97, 32, 123, 32, 114, 58, 32, 98, 59, 32, 125, 32, 116, 121, 112, 101, 32, 98, 32, 116, 121, 112, 101, 32, 98])), (1, 1, .const (.int .i64 11))]), []⟩, ⟨4, (some 10), none, .p (.build [.str [], .int .i64 0] [(0, 1, .const (.str [116, 121, 112, 101, 32, 97, 32, 123, 32, 114, 58, 32, 98, 59, 32, 125])), (1, 1, .const (.int .i64 12))]), []⟩, ⟨5, (some 11), none, .p (.build [.str [], .int .i64 0] [(0, 1, .const (.str [116, 121, 112, 101, 32, 97, 32, 123, 32, 114, 58, 32, 97, 35, 115, 59, 32, 125])), (1, 1, .const (.int .i64 12))]), []⟩, ⟨6, (some 12), none, .p (.build [.str [], .int .i64 0] [(0, 1, .const (.str [116, 121, 112, 101, 32, 97, 32, 123, 32, 114, 32, 61, 32, 115, 59, 32, 125])), (1, 1, .const (.int .i64 12))]), []⟩, ⟨7, (some 13), none, .p (.build [.str [], .int .i64 0] [(0, 1, .const (.str [116, 121, 112, 101, 32, 97, 32, 123, 32, 114, 58, 32, 97, 59, 32, 112, 32, 61, 32, 115, 45, 62, 114, 59, 32, 125])), (1, 1, .const (.int .i64 12))]), []⟩, ⟨8, (some 14), none, .p (.build [.str [], .int .i64 0] [(0, 1, .const (.str [116, 121, 112, 101, 32, 97, 32, 123, 32, 114, 58, 32, 97, 59, 32, 112, 32, 61, 32, 114, 45, 62, 115, 59, 32, 125])), (1, 1, .const (.int .i64 13))]), []⟩, ⟨9, (some 15), none, .p (.build [.str [], .int .i64 0] [(0, 1, .const (.str [116, 121, 112, 101, 32, 97, 32, 123, 32, 114, 58, 32, 97, 59, 32, 112, 32, 61, 32, 114, 59, 32, 113, 32, 61, 32, 112, 45, 62, 114, 59, 32, 125])), (1, 1, .const (.int .i64 13))]), []⟩, ⟨10, (some 16), none, .p (.build [.str [], .int .i64 0] [(0, 1, .const (.str [116, 121, 112, 101, 32, 97, 32, 123, 32, 114, 58, 32, 97, 35, 114, 59, 32, 113, 32, 61, 32, 114, 45, 62, 114, 59, 32, 125])), (1, 1, .const (.int .i64 13))]), []⟩, ⟨11, (some 17), none, .p (.build [.str [], .int .i64 0] [(0, 1, .const (.str [116, 121, 112, 101, 32, 117, 32, 116, 121, 112, 101, 32, 97, 32, 123, 32, 114, 58, 32, 97, 32, 124, 32, 117, 59, 32, 113, 32, 61, 32, 114, 45, 62, 114, 59, 32, 125])), (1, 1, .const (.int .i64 13))]), []⟩, ⟨12, (some 18), none, .p (.build [.str [], .int .i64 0] [(0, 1, .const (.str [116, 121, 112, 101, 32, 97, 32, 123, 32, 114, 58, 32, 97, 59, 32, 112, 32, 61, 32, 114, 32, 45, 32, 112, 59, 32, 125])), (1, 1, .const (.int .i64 14))]), []⟩, ⟨13, (some 19), none, .p (.build [.str [], .int .i64 0] [(0, 1, .const (.str [116, 121, 112, 101, 32, 97, 32, 123, 32, 114, 58, 32, 97, 59, 32, 112, 32, 61, 32, 114, 32, 45, 32, 113, 59, 32, 113, 32, 61, 32, 114, 32, 43, 32, 112, 59, 32, 125])), (1, 1, .const (.int .i64 14))]), []⟩, ⟨14, (some 20), none, .p (.build [.str [], .int .i64 0] [(0, 1, .const (.str [116, 121, 112, 101, 32, 97, 32, 123, 32, 114, 58, 32, 97, 35, 113, 59, 32, 113, 32, 61, 32, 115, 32, 45, 32, 114, 59, 32, 115, 58, 32, 97, 59, 32, 125])), (1, 1, .const (.int .i64 14))]), []⟩, ⟨15, (some 21), none, .p (.build [.str [], .int .i64 0] [(0, 1, .const (.str [116, 121, 112, 101, 32, 97, 32, 123, 32, 115, 58, 32, 97, 59, 32, 112, 32, 61, 32, 115, 32, 45, 32, 115, 45, 62, 112, 59, 32, 125])), (1, 1, .const (.int .i64 14))]), []⟩, ⟨16, (some 22), none, .p (.build [.str [], .int .i64 0] [(0, 1, .const (.str [116, 121, 112, 101, 32, 97, 32, 123, 32, 114, 58, 32, 97, 59, 32, 112, 32, 61, 32, 114, 32, 43, 32, 112, 59, 32, 125])), (1, 1, .const (.int .i64 0))]), []⟩, ⟨17, (some 23), none, .p (.build [.str [], .int .i64 0] [(0, 1, .const (.str [116, 121, 112, 101, 32, 97, 32, 123, 32, 114, 58, 32, 97, 59, 32, 112, 32, 61, 32, 112, 32, 45, 32, 114, 59, 32, 125])), (1, 1, .const (.int .i64 0))]), []⟩, ⟨18, (some 24), none, .p (.build [.str [], .int .i64 0] [(0, 1, .const (.str [116, 121, 112, 101, 32, 97, 32, 123, 32, 114, 58, 32, 97, 59, 32, 112, 32, 61, 32, 114, 32, 38, 32, 112, 45, 62, 114, 59, 32, 125])), (1, 1, .const (.int .i64 13))]), []⟩, ⟨19, (some 25), none, .p (.build [.str [], .int .i64 0] [(0, 1, .const (.str [116, 121, 112, 101, 32, 97, 32, 123, 32, 114, 58, 32, 97, 59, 32, 112, 32, 61, 32, 114, 45, 62, 112, 32, 43, 32, 114, 59, 32, 125])), (1, 1, .const (.int .i64 0))]), []⟩, ⟨20, (some 26), none, .p (.build [.str [], .int .i64 0] [(0, 1, .const (.str [116, 121, 112, 101, 32, 97, 32, 123, 32, 114, 58, 32, 97, 59, 32, 112, 32, 61, 32, 114, 32, 45, 32, 40, 114, 32, 45, 32, 40, 114, 32, 38, 32, 112, 41, 41, 59, 32, 125])), (1, 1, .const (.int .i64 14))]), []⟩, ⟨21, (some 27), none, .p (.build [.str [], .int .i64 0] [(0, 1, .const (.str [116, 121, 112, 101, 32, 98, 32, 123, 32, 115, 58, 32, 97, 35, 112, 59, 32, 125, 32, 116, 121, 112, 101, 32, 97, 32, 123, 32, 114, 58, 32, 98, 35, 115, 59, 32, 112, 32, 61, 32, 114, 59, 32, 125])), (1, 1, .const (.int .i64 0))]), []⟩, ⟨22, (some 28), none, .p (.build [.str [], .int .i64 0] [(0, 1, .const (.str [116, 121, 112, 101, 32, 98, 32, 123, 32, 115, 58, 32, 97, 35, 112, 59, 32, 125, 32, 116, 121, 112, 101, 32, 97, 32, 123, 32, 116, 58, 32, 97, 59, 32, 114, 58, 32, 98, 35, 115, 59, 32, 112, 32, 61, 32, 116, 32, 45, 32, 114, 59, 32, 125])), (1, 1, .const (.int .i64 14))]), []⟩, ⟨23, (some 29), none, .k { z := [.str [], .int .i64 0], len := 23, parts := [(0, .tmp 6), (1, .tmp 7), (2, .tmp 8), (3, .tmp 9), (4, .tmp 10), (5, .tmp 11), (6, .tmp 12), (7, .tmp 13), (8, .tmp 14), (9, .tmp 15), (10, .tmp 16), (11, .tmp 17), (12, .tmp 18), (13, .tmp 19), (14, .tmp 20), (15, .tmp 21), (16, .tmp 22), (17, .tmp 23), (18, .tmp 24), (19, .tmp 25), (20, .tmp 26), (21, .tmp 27), (22, .tmp 28)] }, []⟩, ⟨24, (some 3), none, .p (.mv (.tmp 29)), []⟩] 25 [0, 3]) (.seq (.ops [⟨0, (some 30), none, .p (.mv (.tmp 3)), []⟩, ⟨1, (some 31), none, .p (.mv (.tmp 0)), []⟩, ⟨2, (some 32), none, .p (.bin .and (.tmp 31) (.const (.int .i64 255))), []⟩, ⟨3, (some 33), none, .p (.mv (.tmp 3)), []⟩, ⟨4, (some 34), none, .p (.lenS false (.tmp 33)), []⟩, ⟨5, (some 35), none, .p (.bin .rem (.tmp 32) (.tmp 34)), []⟩, ⟨6, (some 36), none, .p (.idx 2 (.tmp 30) (.tmp 35)), []⟩, ⟨7, (some 37), none, .r (.load true 2 (.tmp 36)), []⟩, ⟨8, (some 4), none, .l (.alloc [.str [], .int .i64 0]), []⟩, ⟨9, none, none, .e (.store (.tmp 4) (.tmp 37) 2), []⟩] 10 [4]) (.seq (.ops [⟨0, (some 38), none, .p (.fld 0 (.tmp 4)), []⟩, ⟨1, (some 39), none, .r (.load false 1 (.tmp 38)), []⟩, ⟨2, (some 40), none, .e (.call true 20 [.tmp 39]), []⟩, ⟨3, (some 5), none, .p (.mv (.tmp 40)), []⟩] 4 [4, 5]) (.seq (.ops [⟨0, (some 41), none, .p (.mv (.tmp 5)), []⟩, ⟨2, (some 43), none, .p (.fld 1 (.tmp 4)), []⟩, ⟨3, (some 44), none, .r (.load false 1 (.tmp 43)), []⟩, ⟨1, (some 42), none, .e (.call true 16 [.tmp 41]), []⟩, ⟨4, (some 45), none, .p (.bin .eql (.tmp 42) (.tmp 44)), []⟩, ⟨5, (some 46), none, .p (.mv (.tmp 45)), []⟩, ⟨6, (some 47), (some (46, true)), .p (.mv (.tmp 5)), []⟩, ⟨7, (some 48), (some (46, true)), .p (.lenS false (.tmp 47)), []⟩, ⟨8, (some 49), (some (46, true)), .p (.bin .gtr (.tmp 48) (.const (.int .i64 0))), []⟩, ⟨9, (some 50), (some (46, true)), .p (.fld 0 (.tmp 4)), []⟩, ⟨10, (some 51), (some (46, true)), .r (.load false 1 (.tmp 50)), []⟩, ⟨11, (some 52), (some (46, true)), .p (.bin .neq (.tmp 51) (.const (.str []))), []⟩, ⟨12, (some 53), (some (46, true)), .p (.eqb false (.tmp 49) (.tmp 52)), []⟩, ⟨13, (some 54), none, .p (.pick (.tmp 46) (.tmp 53) (.const (.bool false))), []⟩, ⟨14, (some 55), none, .p (.mv (.tmp 54)), []⟩, ⟨15, (some 56), (some (55, true)), .e (.call true 17 []), []⟩, ⟨16, (some 57), none, .p (.pick (.tmp 55) (.tmp 56) (.const (.bool false))), []⟩, ⟨17, (some 2), none, .p (.mv (.tmp 57)), []⟩] 18 [2]) (.ret))))) }
def N6 : Notes := { note := fun | 4 => some ⟨[0, 2, 3, 1, 4, 5, 6, 7, 8, 9, 10, 11, 12, 13, 14, 15, 16, 17], [0, 1, 0, 4, 15, 31, 63, 127, 255, 63, 575, 1599, 4095, 8191, 16383, 32767, 65535, 131071], [[], [], [], [], [], [], [], [], [], [], [], [], [], [], [], [], [], []]⟩ | _ => none, keep := fun | 4 => [2] | 3 => [4, 5] | 2 => [4] | 1 => [0, 3] | 0 => [0] | _ => [] }
theorem A6_ok : cFn Try.prog qf N6 Try.f6 = some A6 := by kernel_rfl
inductive W6 where
  | mk (x0 x2 x3 x4 x5 : AV)
abbrev V6 := AV
def mo6 : W6 → Fr := fun ⟨x0, x2, x3, x4, x5⟩ => [x0, .top, x2, x3, x4, x5, .top, .top, .top, .top, .top, .top, .top, .top, .top, .top, .top, .top, .top, .top, .top, .top, .top, .top, .top, .top, .top, .top, .top, .top, .top, .top, .top, .top, .top, .top, .top, .top, .top, .top, .top, .top, .top, .top, .top, .top, .top, .top, .top, .top, .top, .top, .top, .top, .top, .top, .top, .top]
def mi6 : V6 → Fr := fun x0 => [x0, .tup [], .tup [], .tup [], .tup [], .tup [], .tup [], .tup [], .tup [], .tup [], .tup [], .tup [], .tup [], .tup [], .tup [], .tup [], .tup [], .tup [], .tup [], .tup [], .tup [], .tup [], .tup [], .tup [], .tup [], .tup [], .tup [], .tup [], .tup [], .tup [], .tup [], .tup [], .tup [], .tup [], .tup [], .tup [], .tup [], .tup [], .tup [], .tup [], .tup [], .tup [], .tup [], .tup [], .tup [], .tup [], .tup [], .tup [], .tup [], .tup [], .tup [], .tup [], .tup [], .tup [], .tup [], .tup [], .tup [], .tup []]
noncomputable def S6r0 {R : Type} (call : Nat → List AV → M AV) : V6 → Nat → AS → (W6 → AS → Option R) → Option R := fun x0 base s k =>
  k (.mk x0 .top .top .top .top) s
noncomputable def S6r1 {R : Type} (call : Nat → List AV → M AV) : W6 → Nat → AS → (W6 → AS → Option R) → Option R := @W6.rec (fun _ => Nat → AS → (W6 → AS → Option R) → Option R) fun x0 x2 x3 x4 x5 base s k =>
  bndP (buildA [(.str []), (.int .i64 0)] [(0, 1, ((.str []) : AV)), (1, 1, ((.int .i64 0) : AV))]) fun y0 =>
  bndP (buildA [(.str []), (.int .i64 0)] [(0, 1, ((.str [116, 121, 112, 101, 32, 97, 32, 116, 121, 112, 101, 32, 97]) : AV)), (1, 1, ((.int .i64 11) : AV))]) fun y1 =>
  bndP (buildA [(.str []), (.int .i64 0)] [(0, 1, ((.str [116, 121, 112, 101, 32, 97, 32, 123, 32, 114, 58, 32, 97, 59, 32, 114, 58, 32, 97, 59, 32, 125]) : AV)), (1, 1, ((.int .i64 11) : AV))]) fun y2 =>
  bndP (buildA [(.str []), (.int .i64 0)] [(0, 1, ((.str [116, 121, 112, 101, 32, 97, 32, 123, 32, 114, 58, 32, 98, 59, 32, 125, 32, 116, 121, 112, 101, 32, 98, 32, 116, 121, 112, 101, 32, 98]) : AV)), (1, 1, ((.int .i64 11) : AV))]) fun y3 =>
  bndP (buildA [(.str []), (.int .i64 0)] [(0, 1, ((.str [116, 121, 112, 101, 32, 97, 32, 123, 32, 114, 58, 32, 98, 59, 32, 125]) : AV)), (1, 1, ((.int .i64 12) : AV))]) fun y4 =>
  bndP (buildA [(.str []), (.int .i64 0)] [(0, 1, ((.str [116, 121, 112, 101, 32, 97, 32, 123, 32, 114, 58, 32, 97, 35, 115, 59, 32, 125]) : AV)), (1, 1, ((.int .i64 12) : AV))]) fun y5 =>
  bndP (buildA [(.str []), (.int .i64 0)] [(0, 1, ((.str [116, 121, 112, 101, 32, 97, 32, 123, 32, 114, 32, 61, 32, 115, 59, 32, 125]) : AV)), (1, 1, ((.int .i64 12) : AV))]) fun y6 =>
  bndP (buildA [(.str []), (.int .i64 0)] [(0, 1, ((.str [116, 121, 112, 101, 32, 97, 32, 123, 32, 114, 58, 32, 97, 59, 32, 112, 32, 61, 32, 115, 45, 62, 114, 59, 32, 125]) : AV)), (1, 1, ((.int .i64 12) : AV))]) fun y7 =>
  bndP (buildA [(.str []), (.int .i64 0)] [(0, 1, ((.str [116, 121, 112, 101, 32, 97, 32, 123, 32, 114, 58, 32, 97, 59, 32, 112, 32, 61, 32, 114, 45, 62, 115, 59, 32, 125]) : AV)), (1, 1, ((.int .i64 13) : AV))]) fun y8 =>
  bndP (buildA [(.str []), (.int .i64 0)] [(0, 1, ((.str [116, 121, 112, 101, 32, 97, 32, 123, 32, 114, 58, 32, 97, 59, 32, 112, 32, 61, 32, 114, 59, 32, 113, 32, 61, 32, 112, 45, 62, 114, 59, 32, 125]) : AV)), (1, 1, ((.int .i64 13) : AV))]) fun y9 =>
  bndP (buildA [(.str []), (.int .i64 0)] [(0, 1, ((.str [116, 121, 112, 101, 32, 97, 32, 123, 32, 114, 58, 32, 97, 35, 114, 59, 32, 113, 32, 61, 32, 114, 45, 62, 114, 59, 32, 125]) : AV)), (1, 1, ((.int .i64 13) : AV))]) fun y10 =>
  bndP (buildA [(.str []), (.int .i64 0)] [(0, 1, ((.str [116, 121, 112, 101, 32, 117, 32, 116, 121, 112, 101, 32, 97, 32, 123, 32, 114, 58, 32, 97, 32, 124, 32, 117, 59, 32, 113, 32, 61, 32, 114, 45, 62, 114, 59, 32, 125]) : AV)), (1, 1, ((.int .i64 13) : AV))]) fun y11 =>
  bndP (buildA [(.str []), (.int .i64 0)] [(0, 1, ((.str [116, 121, 112, 101, 32, 97, 32, 123, 32, 114, 58, 32, 97, 59, 32, 112, 32, 61, 32, 114, 32, 45, 32, 112, 59, 32, 125]) : AV)), (1, 1, ((.int .i64 14) : AV))]) fun y12 =>
  bndP (buildA [(.str []), (.int .i64 0)] [(0, 1, ((.str [116, 121, 112, 101, 32, 97, 32, 123, 32, 114, 58, 32, 97, 59, 32, 112, 32, 61, 32, 114, 32, 45, 32, 113, 59, 32, 113, 32, 61, 32, 114, 32, 43, 32, 112, 59, 32, 125]) : AV)), (1, 1, ((.int .i64 14) : AV))]) fun y13 =>
  bndP (buildA [(.str []), (.int .i64 0)] [(0, 1, ((.str [116, 121, 112, 101, 32, 97, 32, 123, 32, 114, 58, 32, 97, 35, 113, 59, 32, 113, 32, 61, 32, 115, 32, 45, 32, 114, 59, 32, 115, 58, 32, 97, 59, 32, 125]) : AV)), (1, 1, ((.int .i64 14) : AV))]) fun y14 =>
  bndP (buildA [(.str []), (.int .i64 0)] [(0, 1, ((.str [116, 121, 112, 101, 32, 97, 32, 123, 32, 115, 58, 32, 97, 59, 32, 112, 32, 61, 32, 115, 32, 45, 32, 115, 45, 62, 112, 59, 32, 125]) : AV)), (1, 1, ((.int .i64 14) : AV))]) fun y15 =>
  bndP (buildA [(.str []), (.int .i64 0)] [(0, 1, ((.str [116, 121, 112, 101, 32, 97, 32, 123, 32, 114, 58, 32, 97, 59, 32, 112, 32, 61, 32, 114, 32, 43, 32, 112, 59, 32, 125]) : AV)), (1, 1, ((.int .i64 0) : AV))]) fun y16 =>
  bndP (buildA [(.str []), (.int .i64 0)] [(0, 1, ((.str [116, 121, 112, 101, 32, 97, 32, 123, 32, 114, 58, 32, 97, 59, 32, 112, 32, 61, 32, 112, 32, 45, 32, 114, 59, 32, 125]) : AV)), (1, 1, ((.int .i64 0) : AV))]) fun y17 =>
  bndP (buildA [(.str []), (.int .i64 0)] [(0, 1, ((.str [116, 121, 112, 101, 32, 97, 32, 123, 32, 114, 58, 32, 97, 59, 32, 112, 32, 61, 32, 114, 32, 38, 32, 112, 45, 62, 114, 59, 32, 125]) : AV)), (1, 1, ((.int .i64 13) : AV))]) fun y18 =>
  bndP (buildA [(.str []), (.int .i64 0)] [(0, 1, ((.str [116, 121, 112, 101, 32, 97, 32, 123, 32, 114, 58, 32, 97, 59, 32, 112, 32, 61, 32, 114, 45, 62, 112, 32, 43, 32, 114, 59, 32, 125]) : AV)), (1, 1, ((.int .i64 0) : AV))]) fun y19 =>
  bndP (buildA [(.str []), (.int .i64 0)] [(0, 1, ((.str [116, 121, 112, 101, 32, 97, 32, 123, 32, 114, 58, 32, 97, 59, 32, 112, 32, 61, 32, 114, 32, 45, 32, 40, 114, 32, 45, 32, 40, 114, 32, 38, 32, 112, 41, 41, 59, 32, 125]) : AV)), (1, 1, ((.int .i64 14) : AV))]) fun y20 =>
  bndP (buildA [(.str []), (.int .i64 0)] [(0, 1, ((.str [116, 121, 112, 101, 32, 98, 32, 123, 32, 115, 58, 32, 97, 35, 112, 59, 32, 125, 32, 116, 121, 112, 101, 32, 97, 32, 123, 32, 114, 58, 32, 98, 35, 115, 59, 32, 112, 32, 61, 32, 114, 59, 32, 125]) : AV)), (1, 1, ((.int .i64 0) : AV))]) fun y21 =>
  bndP (buildA [(.str []), (.int .i64 0)] [(0, 1, ((.str [116, 121, 112, 101, 32, 98, 32, 123, 32, 115, 58, 32, 97, 35, 112, 59, 32, 125, 32, 116, 121, 112, 101, 32, 97, 32, 123, 32, 116, 58, 32, 97, 59, 32, 114, 58, 32, 98, 35, 115, 59, 32, 112, 32, 61, 32, 116, 32, 45, 32, 114, 59, 32, 125]) : AV)), (1, 1, ((.int .i64 14) : AV))]) fun y22 =>
  bndP (rowsA [(.str []), (.int .i64 0)] 23 [(0, y0), (1, y1), (2, y2), (3, y3), (4, y4), (5, y5), (6, y6), (7, y7), (8, y8), (9, y9), (10, y10), (11, y11), (12, y12), (13, y13), (14, y14), (15, y15), (16, y16), (17, y17), (18, y18), (19, y19), (20, y20), (21, y21), (22, y22)]) fun y23 =>
  k (.mk x0 .top y23 .top .top) s
noncomputable def S6r2 {R : Type} (call : Nat → List AV → M AV) : W6 → Nat → AS → (W6 → AS → Option R) → Option R := @W6.rec (fun _ => Nat → AS → (W6 → AS → Option R) → Option R) fun x0 x2 x3 x4 x5 base s k =>
  bndP (binQ .and x0 ((.int .i64 255) : AV)) fun y0 =>
  bndP (lenAQ false x3) fun y1 =>
  bndP (binQ .rem y0 y1) fun y2 =>
  bndP (idxQ 2 x3 y2) fun y3 =>
  bndP (loadQ true 2 y3 s.h) fun y4 =>
  bndO (newQ (base + 8) (allocB [(.str []), (.int .i64 0)] (base + 8)) s) fun y5 s =>
  bndO (storeQ y5 y4 2 s) fun _ s =>
  k (.mk .top .top .top y5 .top) s
noncomputable def S6r3 {R : Type} (call : Nat → List AV → M AV) : W6 → Nat → AS → (W6 → AS → Option R) → Option R := @W6.rec (fun _ => Nat → AS → (W6 → AS → Option R) → Option R) fun x0 x2 x3 x4 x5 base s k =>
  bndP (fldA 0 x4) fun y0 =>
  bndP (loadQ false 1 y0 s.h) fun y1 =>
  bndO (quietQ call 20 [y1] s) fun y2 s =>
  k (.mk .top .top .top x4 y2) s
noncomputable def S6r4 {R : Type} (call : Nat → List AV → M AV) : W6 → Nat → AS → (W6 → AS → Option R) → Option R := @W6.rec (fun _ => Nat → AS → (W6 → AS → Option R) → Option R) fun x0 x2 x3 x4 x5 base s k =>
  bndP (fldA 1 x4) fun y0 =>
  bndP (loadQ false 1 y0 s.h) fun y1 =>
  bndO (quietQ call 16 [x5] s) fun y2 s =>
  bndP (binQ .eql y2 y1) fun y3 =>
  bndO (gd (wantG y3 true) (fun s => (pureO (some x5) s)) s) fun y4 s =>
  bndO (gd (wantG y3 true) (fun s => (pureO (lenAQ false y4) s)) s) fun y5 s =>
  bndO (gd (wantG y3 true) (fun s => (pureO (binQ .gtr y5 ((.int .i64 0) : AV)) s)) s) fun y6 s =>
  bndO (gd (wantG y3 true) (fun s => (pureO (fldA 0 x4) s)) s) fun y7 s =>
  bndO (gd (wantG y3 true) (fun s => (pureO (loadQ false 1 y7 s.h) s)) s) fun y8 s =>
  bndO (gd (wantG y3 true) (fun s => (pureO (binQ .neq y8 ((.str []) : AV)) s)) s) fun y9 s =>
  bndO (gd (wantG y3 true) (fun s => (pureO (eqbA false y6 y9) s)) s) fun y10 s =>
  bndP (pickA y3 y10 ((.bool false) : AV)) fun y11 =>
  bndO (gd (wantG y11 true) (fun s => (quietQ call 17 [] s)) s) fun y12 s =>
  bndP (pickA y11 y12 ((.bool false) : AV)) fun y13 =>
  k (.mk .top y13 .top .top .top) s
noncomputable def S6c {R : Type} (call : Nat → List AV → M AV) (fuel : Nat) : SC V6 W6 R := sSeq (sReg 1 (S6r0 call)) (sSeq (sReg 25 (S6r1 call)) (sSeq (sReg 10 (S6r2 call)) (sSeq (sReg 4 (S6r3 call)) (sSeq (sReg 18 (S6r4 call)) (sRet)))))
noncomputable def S6e : Ex → W6 → AS → Option (AV × AS) := fun e w s => (@W6.rec (fun _ => Option (AV × AS)) fun _ x2 _ _ _ => @Ex.rec (fun _ => Option (AV × AS)) (some (x2, s)) (fun _ => none) (some (x2, s)) e) w
noncomputable def S6 (call : Nat → List AV → M AV) (fuel : Nat) (args : List AV) (s : AS) : Option (AV × AS) := match args with
  | [x0] => S6c call fuel x0 s S6e
  | _ => none
theorem S6_sim (call : Nat → List AV → M AV) (fuel : Nat) : Sim (R := AV × AS) call fuel mi6 mo6 A6.code (S6c call fuel) := by
  refine sim_seq (sim_reg (fun x0 _ _ _ => by kernel_rfl)) (sim_seq (sim_reg (fun ⟨x0, x2, x3, x4, x5⟩ _ _ _ => by kernel_rfl)) (sim_seq (sim_reg (fun ⟨x0, x2, x3, x4, x5⟩ _ _ _ => by kernel_rfl)) (sim_seq (sim_reg (fun ⟨x0, x2, x3, x4, x5⟩ _ _ _ => by kernel_rfl)) (sim_seq (sim_reg (fun ⟨x0, x2, x3, x4, x5⟩ _ _ _ => by kernel_rfl)) (sim_ret)))))
theorem S6_ok (call : Nat → List AV → M AV) (fuel : Nat) (args : List AV) (s : AS) : afn call fuel A6 args s = S6 call fuel args s := by
  rcases args with _ | ⟨x0, _ | ⟨x1, r⟩⟩
  · kernel_rfl
  · exact (afn_sim (S6_sim call fuel) (v := x0) (e2 := S6e) (by kernel_rfl) (by kernel_rfl) (fun e w s => by cases w; cases e <;> kernel_rfl)).trans (by kernel_rfl)
  · kernel_rfl
def A16 : AFn := { nargs := 1, ntmps := 11, res := [.tmp 2], code := .seq (.ops [⟨0, (some 2), none, .p (.mv (.const (.int .i64 0))), []⟩] 1 [0]) (.seq (.ops [⟨0, (some 6), none, .p (.mv (.tmp 0)), []⟩, ⟨1, (some 7), none, .e (.call false 35 [.tmp 6]), []⟩, ⟨2, (some 5), none, .p (.mv (.tmp 7)), []⟩, ⟨3, (some 8), none, .p (.extract (.tmp 5) 0), []⟩, ⟨4, (some 9), none, .p (.extract (.tmp 5) 1), []⟩, ⟨5, (some 3), none, .p (.mv (.tmp 8)), []⟩, ⟨6, (some 4), none, .p (.mv (.tmp 9)), []⟩] 7 [4]) (.seq (.ops [⟨0, (some 10), none, .p (.mv (.tmp 4)), []⟩, ⟨1, (some 2), none, .p (.mv (.tmp 10)), []⟩] 2 [2]) (.ret))) }
def N16 : Notes := { note := fun _ => none, keep := fun | 2 => [2] | 1 => [4] | 0 => [0] | _ => [] }
theorem A16_ok : cFn Try.prog qf N16 Try.f16 = some A16 := by kernel_rfl
inductive W16 where
  | mk (x0 x2 x4 : AV)
abbrev V16 := AV
def mo16 : W16 → Fr := fun ⟨x0, x2, x4⟩ => [x0, .top, x2, .top, x4, .top, .top, .top, .top, .top, .top]
def mi16 : V16 → Fr := fun x0 => [x0, .tup [], .tup [], .tup [], .tup [], .tup [], .tup [], .tup [], .tup [], .tup [], .tup []]
noncomputable def S16r0 {R : Type} (call : Nat → List AV → M AV) : V16 → Nat → AS → (W16 → AS → Option R) → Option R := fun x0 base s k =>
  k (.mk x0 .top .top) s
noncomputable def S16r1 {R : Type} (call : Nat → List AV → M AV) : W16 → Nat → AS → (W16 → AS → Option R) → Option R := @W16.rec (fun _ => Nat → AS → (W16 → AS → Option R) → Option R) fun x0 x2 x4 base s k =>
  bndO (call 35 [x0] s) fun y0 s =>
  bndP (extrQ y0 0) fun y1 =>
  bndP (extrQ y0 1) fun y2 =>
  k (.mk .top .top y2) s
noncomputable def S16r2 {R : Type} (call : Nat → List AV → M AV) : W16 → Nat → AS → (W16 → AS → Option R) → Option R := @W16.rec (fun _ => Nat → AS → (W16 → AS → Option R) → Option R) fun x0 x2 x4 base s k =>
  k (.mk .top x4 .top) s
noncomputable def S16c {R : Type} (call : Nat → List AV → M AV) (fuel : Nat) : SC V16 W16 R := sSeq (sReg 1 (S16r0 call)) (sSeq (sReg 7 (S16r1 call)) (sSeq (sReg 2 (S16r2 call)) (sRet)))
noncomputable def S16e : Ex → W16 → AS → Option (AV × AS) := fun e w s => (@W16.rec (fun _ => Option (AV × AS)) fun _ x2 _ => @Ex.rec (fun _ => Option (AV × AS)) (some (x2, s)) (fun _ => none) (some (x2, s)) e) w
noncomputable def S16 (call : Nat → List AV → M AV) (fuel : Nat) (args : List AV) (s : AS) : Option (AV × AS) := match args with
  | [x0] => S16c call fuel x0 s S16e
  | _ => none
theorem S16_sim (call : Nat → List AV → M AV) (fuel : Nat) : Sim (R := AV × AS) call fuel mi16 mo16 A16.code (S16c call fuel) := by
  refine sim_seq (sim_reg (fun x0 _ _ _ => by kernel_rfl)) (sim_seq (sim_reg (fun ⟨x0, x2, x4⟩ _ _ _ => by kernel_rfl)) (sim_seq (sim_reg (fun ⟨x0, x2, x4⟩ _ _ _ => by kernel_rfl)) (sim_ret)))
theorem S16_ok (call : Nat → List AV → M AV) (fuel : Nat) (args : List AV) (s : AS) : afn call fuel A16 args s = S16 call fuel args s := by
  rcases args with _ | ⟨x0, _ | ⟨x1, r⟩⟩
  · kernel_rfl
  · exact (afn_sim (S16_sim call fuel) (v := x0) (e2 := S16e) (by kernel_rfl) (by kernel_rfl) (fun e w s => by cases w; cases e <;> kernel_rfl)).trans (by kernel_rfl)
  · kernel_rfl
def A17 : AFn := { nargs := 0, ntmps := 64, res := [.tmp 0], code := .seq (.ops [⟨0, (some 0), none, .p (.mv (.const (.bool false))), []⟩] 1 []) (.seq (.ops [⟨0, (some 9), none, .e (.call true 20 [.const (.str [116, 121, 112, 101, 32, 117, 32, 116, 121, 112, 101, 32, 97, 32, 123, 32, 114, 58, 32, 117, 59, 32, 112, 32, 61, 32, 114, 32, 45, 32, 113, 59, 32, 113, 32, 61, 32, 114, 59, 32, 125, 32, 116, 121, 112, 101, 32, 98, 32, 123, 32, 115, 58, 32, 97, 59, 32, 120, 32, 61, 32, 115, 45, 62, 112, 59, 32, 125])]), []⟩, ⟨1, (some 1), none, .p (.mv (.tmp 9)), []⟩] 2 [1]) (.seq (.ops [⟨0, (some 10), none, .e (.call true 20 [.const (.str [116, 121, 112, 101, 32, 97, 32, 123, 32, 114, 58, 32, 97, 35, 112, 59, 32, 112, 32, 61, 32, 114, 32, 45, 32, 112, 59, 32, 125])]), []⟩, ⟨1, (some 2), none, .p (.mv (.tmp 10)), []⟩] 2 [1, 2]) (.seq (.ops [⟨0, (some 12), none, .p (.mv (.tmp 1)), []⟩, ⟨1, (some 13), none, .e (.call true 18 [.tmp 12, .const (.str [97]), .const (.str [112])]), []⟩, ⟨2, (some 11), none, .p (.mv (.tmp 13)), []⟩, ⟨3, (some 14), none, .p (.extract (.tmp 11) 0), []⟩, ⟨4, (some 15), none, .p (.extract (.tmp 11) 1), []⟩, ⟨5, (some 3), none, .p (.mv (.tmp 14)), []⟩, ⟨6, (some 4), none, .p (.mv (.tmp 15)), []⟩] 7 [1, 2, 3, 4]) (.seq (.ops [⟨0, (some 17), none, .p (.mv (.tmp 1)), []⟩, ⟨1, (some 18), none, .e (.call true 18 [.tmp 17, .const (.str [98]), .const (.str [120])]), []⟩, ⟨2, (some 16), none, .p (.mv (.tmp 18)), []⟩, ⟨3, (some 19), none, .p (.extract (.tmp 16) 0), []⟩, ⟨4, (some 20), none, .p (.extract (.tmp 16) 1), []⟩, ⟨5, (some 5), none, .p (.mv (.tmp 19)), []⟩, ⟨6, (some 6), none, .p (.mv (.tmp 20)), []⟩] 7 [1, 2, 3, 4, 5, 6]) (.seq (.ops [⟨0, (some 22), none, .p (.mv (.tmp 1)), []⟩, ⟨1, (some 23), none, .e (.call true 18 [.tmp 22, .const (.str [97]), .const (.str [122])]), []⟩, ⟨2, (some 21), none, .p (.mv (.tmp 23)), []⟩, ⟨3, (some 24), none, .p (.extract (.tmp 21) 0), []⟩, ⟨4, (some 25), none, .p (.extract (.tmp 21) 1), []⟩, ⟨5, (some 7), none, .p (.mv (.tmp 24)), []⟩, ⟨6, (some 8), none, .p (.mv (.tmp 25)), []⟩] 7 [1, 2, 3, 4, 5, 6, 8]) (.seq (.ops [⟨0, (some 26), none, .p (.mv (.tmp 1)), []⟩, ⟨1, (some 27), none, .p (.lenS false (.tmp 26)), []⟩, ⟨2, (some 28), none, .p (.bin .eql (.tmp 27) (.const (.int .i64 3))), []⟩, ⟨3, (some 29), none, .p (.mv (.tmp 28)), []⟩, ⟨4, (some 30), (some (29, true)), .p (.mv (.tmp 1)), []⟩, ⟨5, (some 31), (some (29, true)), .e (.call true 16 [.tmp 30]), []⟩, ⟨6, (some 32), (some (29, true)), .p (.bin .eql (.tmp 31) (.const (.int .i64 0))), []⟩, ⟨7, (some 33), none, .p (.pick (.tmp 29) (.tmp 32) (.const (.bool false))), []⟩, ⟨8, (some 34), none, .p (.mv (.tmp 33)), []⟩, ⟨9, (some 35), (some (34, true)), .p (.mv (.tmp 2)), []⟩, ⟨10, (some 36), (some (34, true)), .e (.call true 16 [.tmp 35]), []⟩, ⟨11, (some 37), (some (34, true)), .p (.bin .eql (.tmp 36) (.const (.int .i64 14))), []⟩, ⟨12, (some 38), none, .p (.pick (.tmp 34) (.tmp 37) (.const (.bool false))), []⟩, ⟨13, (some 39), none, .p (.mv (.tmp 38)), []⟩, ⟨14, (some 40), (some (39, true)), .p (.mv (.tmp 3)), []⟩, ⟨15, (some 41), (some (39, true)), .p (.bin .eql (.tmp 40) (.const (.int .i64 1))), []⟩, ⟨16, (some 42), none, .p (.pick (.tmp 39) (.tmp 41) (.const (.bool false))), []⟩, ⟨17, (some 43), none, .p (.mv (.tmp 42)), []⟩, ⟨18, (some 44), (some (43, true)), .p (.mv (.tmp 4)), []⟩, ⟨19, (some 45), none, .p (.pick (.tmp 43) (.tmp 44) (.const (.bool false))), []⟩, ⟨20, (some 46), none, .p (.mv (.tmp 45)), []⟩, ⟨21, (some 47), (some (46, true)), .p (.mv (.tmp 5)), []⟩, ⟨22, (some 48), (some (46, true)), .p (.bin .eql (.tmp 47) (.const (.int .i64 1))), []⟩, ⟨23, (some 49), none, .p (.pick (.tmp 46) (.tmp 48) (.const (.bool false))), []⟩, ⟨24, (some 50), none, .p (.mv (.tmp 49)), []⟩, ⟨25, (some 51), (some (50, true)), .p (.mv (.tmp 6)), []⟩, ⟨26, (some 52), none, .p (.pick (.tmp 50) (.tmp 51) (.const (.bool false))), []⟩, ⟨27, (some 53), none, .p (.mv (.tmp 52)), []⟩, ⟨28, (some 54), (some (53, true)), .p (.mv (.tmp 8)), []⟩, ⟨29, (some 55), (some (53, true)), .p (.notb (.tmp 54)), []⟩, ⟨30, (some 56), none, .p (.pick (.tmp 53) (.tmp 55) (.const (.bool false))), []⟩, ⟨31, (some 57), none, .p (.mv (.tmp 56)), []⟩, ⟨32, (some 58), (some (57, true)), .p (.mv (.tmp 1)), []⟩, ⟨33, (some 59), (some (57, true)), .p (.build [.str [], .str []] [(0, 1, .const (.str [97])), (1, 1, .const (.str [49]))]), []⟩, ⟨34, (some 60), (some (57, true)), .p (.build [.str [], .str [], .str []] [(0, 1, .const (.str [117])), (1, 1, .const (.str [50]))]), []⟩, ⟨35, (some 61), (some (57, true)), .p (.build [.str [], .str [], .str [], .str [], .str [], .str []] [(0, 2, .tmp 59), (2, 1, .const (.str [114])), (3, 3, .tmp 60)]), []⟩, ⟨36, (some 62), (some (57, true)), .e (.call true 23 [.tmp 58, .tmp 61]), []⟩, ⟨37, (some 63), none, .p (.pick (.tmp 57) (.tmp 62) (.const (.bool false))), []⟩, ⟨38, (some 0), none, .p (.mv (.tmp 63)), []⟩] 39 [0]) (.ret))))))) }
def N17 : Notes := { note := fun _ => none, keep := fun | 6 => [0] | 5 => [1, 2, 3, 4, 5, 6, 8] | 4 => [1, 2, 3, 4, 5, 6] | 3 => [1, 2, 3, 4] | 2 => [1, 2] | 1 => [1] | 0 => [] | _ => [] }
theorem A17_ok : cFn Try.prog qf N17 Try.f17 = some A17 := by kernel_rfl
inductive W17 where
  | mk (x0 x1 x2 x3 x4 x5 x6 x8 : AV)
abbrev V17 := Unit
def mo17 : W17 → Fr := fun ⟨x0, x1, x2, x3, x4, x5, x6, x8⟩ => [x0, x1, x2, x3, x4, x5, x6, .top, x8, .top, .top, .top, .top, .top, .top, .top, .top, .top, .top, .top, .top, .top, .top, .top, .top, .top, .top, .top, .top, .top, .top, .top, .top, .top, .top, .top, .top, .top, .top, .top, .top, .top, .top, .top, .top, .top, .top, .top, .top, .top, .top, .top, .top, .top, .top, .top, .top, .top, .top, .top, .top, .top, .top, .top]
def mi17 : V17 → Fr := fun _ => [.tup [], .tup [], .tup [], .tup [], .tup [], .tup [], .tup [], .tup [], .tup [], .tup [], .tup [], .tup [], .tup [], .tup [], .tup [], .tup [], .tup [], .tup [], .tup [], .tup [], .tup [], .tup [], .tup [], .tup [], .tup [], .tup [], .tup [], .tup [], .tup [], .tup [], .tup [], .tup [], .tup [], .tup [], .tup [], .tup [], .tup [], .tup [], .tup [], .tup [], .tup [], .tup [], .tup [], .tup [], .tup [], .tup [], .tup [], .tup [], .tup [], .tup [], .tup [], .tup [], .tup [], .tup [], .tup [], .tup [], .tup [], .tup [], .tup [], .tup [], .tup [], .tup [], .tup [], .tup []]
noncomputable def S17r0 {R : Type} (call : Nat → List AV → M AV) : V17 → Nat → AS → (W17 → AS → Option R) → Option R := fun _ base s k =>
  k (.mk .top .top .top .top .top .top .top .top) s
noncomputable def S17r1 {R : Type} (call : Nat → List AV → M AV) : W17 → Nat → AS → (W17 → AS → Option R) → Option R := @W17.rec (fun _ => Nat → AS → (W17 → AS → Option R) → Option R) fun x0 x1 x2 x3 x4 x5 x6 x8 base s k =>
  bndO (quietQ call 20 [((.str [116, 121, 112, 101, 32, 117, 32, 116, 121, 112, 101, 32, 97, 32, 123, 32, 114, 58, 32, 117, 59, 32, 112, 32, 61, 32, 114, 32, 45, 32, 113, 59, 32, 113, 32, 61, 32, 114, 59, 32, 125, 32, 116, 121, 112, 101, 32, 98, 32, 123, 32, 115, 58, 32, 97, 59, 32, 120, 32, 61, 32, 115, 45, 62, 112, 59, 32, 125]) : AV)] s) fun y0 s =>
  k (.mk .top y0 .top .top .top .top .top .top) s
noncomputable def S17r2 {R : Type} (call : Nat → List AV → M AV) : W17 → Nat → AS → (W17 → AS → Option R) → Option R := @W17.rec (fun _ => Nat → AS → (W17 → AS → Option R) → Option R) fun x0 x1 x2 x3 x4 x5 x6 x8 base s k =>
  bndO (quietQ call 20 [((.str [116, 121, 112, 101, 32, 97, 32, 123, 32, 114, 58, 32, 97, 35, 112, 59, 32, 112, 32, 61, 32, 114, 32, 45, 32, 112, 59, 32, 125]) : AV)] s) fun y0 s =>
  k (.mk .top x1 y0 .top .top .top .top .top) s
noncomputable def S17r3 {R : Type} (call : Nat → List AV → M AV) : W17 → Nat → AS → (W17 → AS → Option R) → Option R := @W17.rec (fun _ => Nat → AS → (W17 → AS → Option R) → Option R) fun x0 x1 x2 x3 x4 x5 x6 x8 base s k =>
  bndO (quietQ call 18 [x1, ((.str [97]) : AV), ((.str [112]) : AV)] s) fun y0 s =>
  bndP (extrQ y0 0) fun y1 =>
  bndP (extrQ y0 1) fun y2 =>
  k (.mk .top x1 x2 y1 y2 .top .top .top) s
noncomputable def S17r4 {R : Type} (call : Nat → List AV → M AV) : W17 → Nat → AS → (W17 → AS → Option R) → Option R := @W17.rec (fun _ => Nat → AS → (W17 → AS → Option R) → Option R) fun x0 x1 x2 x3 x4 x5 x6 x8 base s k =>
  bndO (quietQ call 18 [x1, ((.str [98]) : AV), ((.str [120]) : AV)] s) fun y0 s =>
  bndP (extrQ y0 0) fun y1 =>
  bndP (extrQ y0 1) fun y2 =>
  k (.mk .top x1 x2 x3 x4 y1 y2 .top) s
noncomputable def S17r5 {R : Type} (call : Nat → List AV → M AV) : W17 → Nat → AS → (W17 → AS → Option R) → Option R := @W17.rec (fun _ => Nat → AS → (W17 → AS → Option R) → Option R) fun x0 x1 x2 x3 x4 x5 x6 x8 base s k =>
  bndO (quietQ call 18 [x1, ((.str [97]) : AV), ((.str [122]) : AV)] s) fun y0 s =>
  bndP (extrQ y0 0) fun y1 =>
  bndP (extrQ y0 1) fun y2 =>
  k (.mk .top x1 x2 x3 x4 x5 x6 y2) s
noncomputable def S17r6 {R : Type} (call : Nat → List AV → M AV) : W17 → Nat → AS → (W17 → AS → Option R) → Option R := @W17.rec (fun _ => Nat → AS → (W17 → AS → Option R) → Option R) fun x0 x1 x2 x3 x4 x5 x6 x8 base s k =>
  bndP (lenAQ false x1) fun y0 =>
  bndP (binQ .eql y0 ((.int .i64 3) : AV)) fun y1 =>
  bndO (gd (wantG y1 true) (fun s => (pureO (some x1) s)) s) fun y2 s =>
  bndO (gd (wantG y1 true) (fun s => (quietQ call 16 [y2] s)) s) fun y3 s =>
  bndO (gd (wantG y1 true) (fun s => (pureO (binQ .eql y3 ((.int .i64 0) : AV)) s)) s) fun y4 s =>
  bndP (pickA y1 y4 ((.bool false) : AV)) fun y5 =>
  bndO (gd (wantG y5 true) (fun s => (pureO (some x2) s)) s) fun y6 s =>
  bndO (gd (wantG y5 true) (fun s => (quietQ call 16 [y6] s)) s) fun y7 s =>
  bndO (gd (wantG y5 true) (fun s => (pureO (binQ .eql y7 ((.int .i64 14) : AV)) s)) s) fun y8 s =>
  bndP (pickA y5 y8 ((.bool false) : AV)) fun y9 =>
  bndO (gd (wantG y9 true) (fun s => (pureO (some x3) s)) s) fun y10 s =>
  bndO (gd (wantG y9 true) (fun s => (pureO (binQ .eql y10 ((.int .i64 1) : AV)) s)) s) fun y11 s =>
  bndP (pickA y9 y11 ((.bool false) : AV)) fun y12 =>
  bndO (gd (wantG y12 true) (fun s => (pureO (some x4) s)) s) fun y13 s =>
  bndP (pickA y12 y13 ((.bool false) : AV)) fun y14 =>
  bndO (gd (wantG y14 true) (fun s => (pureO (some x5) s)) s) fun y15 s =>
  bndO (gd (wantG y14 true) (fun s => (pureO (binQ .eql y15 ((.int .i64 1) : AV)) s)) s) fun y16 s =>
  bndP (pickA y14 y16 ((.bool false) : AV)) fun y17 =>
  bndO (gd (wantG y17 true) (fun s => (pureO (some x6) s)) s) fun y18 s =>
  bndP (pickA y17 y18 ((.bool false) : AV)) fun y19 =>
  bndO (gd (wantG y19 true) (fun s => (pureO (some x8) s)) s) fun y20 s =>
  bndO (gd (wantG y19 true) (fun s => (pureO (notA y20) s)) s) fun y21 s =>
  bndP (pickA y19 y21 ((.bool false) : AV)) fun y22 =>
  bndO (gd (wantG y22 true) (fun s => (pureO (some x1) s)) s) fun y23 s =>
  bndO (gd (wantG y22 true) (fun s => (pureO (buildA [(.str []), (.str [])] [(0, 1, ((.str [97]) : AV)), (1, 1, ((.str [49]) : AV))]) s)) s) fun y24 s =>
  bndO (gd (wantG y22 true) (fun s => (pureO (buildA [(.str []), (.str []), (.str [])] [(0, 1, ((.str [117]) : AV)), (1, 1, ((.str [50]) : AV))]) s)) s) fun y25 s =>
  bndO (gd (wantG y22 true) (fun s => (pureO (buildA [(.str []), (.str []), (.str []), (.str []), (.str []), (.str [])] [(0, 2, y24), (2, 1, ((.str [114]) : AV)), (3, 3, y25)]) s)) s) fun y26 s =>
  bndO (gd (wantG y22 true) (fun s => (quietQ call 23 [y23, y26] s)) s) fun y27 s =>
  bndP (pickA y22 y27 ((.bool false) : AV)) fun y28 =>
  k (.mk y28 .top .top .top .top .top .top .top) s
noncomputable def S17c {R : Type} (call : Nat → List AV → M AV) (fuel : Nat) : SC V17 W17 R := sSeq (sReg 1 (S17r0 call)) (sSeq (sReg 2 (S17r1 call)) (sSeq (sReg 2 (S17r2 call)) (sSeq (sReg 7 (S17r3 call)) (sSeq (sReg 7 (S17r4 call)) (sSeq (sReg 7 (S17r5 call)) (sSeq (sReg 39 (S17r6 call)) (sRet)))))))
noncomputable def S17e : Ex → W17 → AS → Option (AV × AS) := fun e w s => (@W17.rec (fun _ => Option (AV × AS)) fun x0 _ _ _ _ _ _ _ => @Ex.rec (fun _ => Option (AV × AS)) (some (x0, s)) (fun _ => none) (some (x0, s)) e) w
noncomputable def S17 (call : Nat → List AV → M AV) (fuel : Nat) (args : List AV) (s : AS) : Option (AV × AS) := match args with
  | [] => S17c call fuel () s S17e
  | _ => none
theorem S17_sim (call : Nat → List AV → M AV) (fuel : Nat) : Sim (R := AV × AS) call fuel mi17 mo17 A17.code (S17c call fuel) := by
  refine sim_seq (sim_reg (fun _ _ _ _ => by kernel_rfl)) (sim_seq (sim_reg (fun ⟨x0, x1, x2, x3, x4, x5, x6, x8⟩ _ _ _ => by kernel_rfl)) (sim_seq (sim_reg (fun ⟨x0, x1, x2, x3, x4, x5, x6, x8⟩ _ _ _ => by kernel_rfl)) (sim_seq (sim_reg (fun ⟨x0, x1, x2, x3, x4, x5, x6, x8⟩ _ _ _ => by kernel_rfl)) (sim_seq (sim_reg (fun ⟨x0, x1, x2, x3, x4, x5, x6, x8⟩ _ _ _ => by kernel_rfl)) (sim_seq (sim_reg (fun ⟨x0, x1, x2, x3, x4, x5, x6, x8⟩ _ _ _ => by kernel_rfl)) (sim_seq (sim_reg (fun ⟨x0, x1, x2, x3, x4, x5, x6, x8⟩ _ _ _ => by kernel_rfl)) (sim_ret)))))))
theorem S17_ok (call : Nat → List AV → M AV) (fuel : Nat) (args : List AV) (s : AS) : afn call fuel A17 args s = S17 call fuel args s := by
  rcases args with _ | ⟨x0, r⟩
  · exact (afn_sim (S17_sim call fuel) (v := ()) (e2 := S17e) (by kernel_rfl) (by kernel_rfl) (fun e w s => by cases w; cases e <;> kernel_rfl)).trans (by kernel_rfl)
  · kernel_rfl
def A18 : AFn := { nargs := 3, ntmps := 31, res := [.tmp 6, .tmp 7], code := .seq (.ops [⟨0, (some 6), none, .p (.mv (.const (.int .i64 0))), []⟩, ⟨1, (some 7), none, .p (.mv (.const (.bool false))), []⟩] 2 [0, 1, 2]) (.seq (.ops [⟨0, (some 13), none, .p (.mv (.tmp 0)), []⟩, ⟨1, (some 14), none, .e (.call false 35 [.tmp 13]), []⟩, ⟨2, (some 12), none, .p (.mv (.tmp 14)), []⟩, ⟨3, (some 15), none, .p (.extract (.tmp 12) 0), []⟩, ⟨4, (some 16), none, .p (.extract (.tmp 12) 1), []⟩, ⟨5, (some 8), none, .p (.mv (.tmp 15)), []⟩, ⟨6, (some 9), none, .p (.mv (.tmp 16)), []⟩] 7 [1, 2, 8, 9]) (.seq (.seq (.ops [⟨0, (some 17), none, .p (.mv (.tmp 9)), []⟩, ⟨1, (some 18), none, .p (.bin .neq (.tmp 17) (.const (.int .i64 0))), []⟩] 2 [1, 2, 8, 18]) (.cond (.tmp 18) (.seq (.ops [⟨0, (some 6), none, .p (.mv (.const (.int .i64 0))), []⟩, ⟨1, (some 7), none, .p (.mv (.const (.bool false))), []⟩] 2 [6, 7]) (.ret)) (.skip))) (.seq (.ops [⟨0, (some 20), none, .p (.mv (.tmp 8)), []⟩, ⟨1, (some 21), none, .p (.mv (.tmp 1)), []⟩, ⟨2, (some 22), none, .p (.mv (.tmp 2)), []⟩, ⟨3, (some 23), none, .e (.call true 36 [.tmp 20, .tmp 21, .tmp 22]), []⟩, ⟨4, (some 19), none, .p (.mv (.tmp 23)), []⟩, ⟨5, (some 24), none, .p (.extract (.tmp 19) 0), []⟩, ⟨6, (some 25), none, .p (.extract (.tmp 19) 1), []⟩, ⟨7, (some 10), none, .l (.alloc [.str [], .nils, .nils]), []⟩, ⟨8, none, none, .e (.store (.tmp 10) (.tmp 24) 3), []⟩, ⟨9, (some 11), none, .p (.mv (.tmp 25)), []⟩] 10 [1, 2, 8, 11]) (.seq (.ops [⟨0, (some 26), none, .p (.mv (.tmp 8)), []⟩, ⟨1, (some 27), none, .p (.mv (.tmp 1)), []⟩, ⟨2, (some 28), none, .p (.mv (.tmp 2)), []⟩, ⟨3, (some 29), none, .e (.call true 37 [.tmp 26, .tmp 27, .tmp 28]), []⟩, ⟨4, (some 30), none, .p (.mv (.tmp 11)), []⟩, ⟨5, (some 6), none, .p (.mv (.tmp 29)), []⟩, ⟨6, (some 7), none, .p (.mv (.tmp 30)), []⟩] 7 [6, 7]) (.ret))))) }
def N18 : Notes := { note := fun _ => none, keep := fun | 5 => [6, 7] | 4 => [1, 2, 8, 11] | 3 => [6, 7] | 2 => [1, 2, 8, 18] | 1 => [1, 2, 8, 9] | 0 => [0, 1, 2] | _ => [] }
theorem A18_ok : cFn Try.prog qf N18 Try.f18 = some A18 := by kernel_rfl
inductive W18 where
  | mk (x0 x1 x2 x6 x7 x8 x9 x11 x18 : AV)
inductive V18 where
  | mk (x0 x1 x2 : AV)
def mo18 : W18 → Fr := fun ⟨x0, x1, x2, x6, x7, x8, x9, x11, x18⟩ => [x0, x1, x2, .top, .top, .top, x6, x7, x8, x9, .top, x11, .top, .top, .top, .top, .top, .top, x18, .top, .top, .top, .top, .top, .top, .top, .top, .top, .top, .top, .top]
def mi18 : V18 → Fr := fun ⟨x0, x1, x2⟩ => [x0, x1, x2, .tup [], .tup [], .tup [], .tup [], .tup [], .tup [], .tup [], .tup [], .tup [], .tup [], .tup [], .tup [], .tup [], .tup [], .tup [], .tup [], .tup [], .tup [], .tup [], .tup [], .tup [], .tup [], .tup [], .tup [], .tup [], .tup [], .tup [], .tup []]
noncomputable def S18r0 {R : Type} (call : Nat → List AV → M AV) : V18 → Nat → AS → (W18 → AS → Option R) → Option R := @V18.rec (fun _ => Nat → AS → (W18 → AS → Option R) → Option R) fun x0 x1 x2 base s k =>
  k (.mk x0 x1 x2 .top .top .top .top .top .top) s
noncomputable def S18r1 {R : Type} (call : Nat → List AV → M AV) : W18 → Nat → AS → (W18 → AS → Option R) → Option R := @W18.rec (fun _ => Nat → AS → (W18 → AS → Option R) → Option R) fun x0 x1 x2 x6 x7 x8 x9 x11 x18 base s k =>
  bndO (call 35 [x0] s) fun y0 s =>
  bndP (extrQ y0 0) fun y1 =>
  bndP (extrQ y0 1) fun y2 =>
  k (.mk .top x1 x2 .top .top y1 y2 .top .top) s
noncomputable def S18r2 {R : Type} (call : Nat → List AV → M AV) : W18 → Nat → AS → (W18 → AS → Option R) → Option R := @W18.rec (fun _ => Nat → AS → (W18 → AS → Option R) → Option R) fun x0 x1 x2 x6 x7 x8 x9 x11 x18 base s k =>
  bndP (binQ .neq x9 ((.int .i64 0) : AV)) fun y0 =>
  k (.mk .top x1 x2 .top .top x8 .top .top y0) s
noncomputable def S18r3 {R : Type} (call : Nat → List AV → M AV) : W18 → Nat → AS → (W18 → AS → Option R) → Option R := @W18.rec (fun _ => Nat → AS → (W18 → AS → Option R) → Option R) fun x0 x1 x2 x6 x7 x8 x9 x11 x18 base s k =>
  k (.mk .top .top .top ((.int .i64 0) : AV) ((.bool false) : AV) .top .top .top .top) s
noncomputable def S18r4 {R : Type} (call : Nat → List AV → M AV) : W18 → Nat → AS → (W18 → AS → Option R) → Option R := @W18.rec (fun _ => Nat → AS → (W18 → AS → Option R) → Option R) fun x0 x1 x2 x6 x7 x8 x9 x11 x18 base s k =>
  bndO (quietQ call 36 [x8, x1, x2] s) fun y0 s =>
  bndP (extrQ y0 0) fun y1 =>
  bndP (extrQ y0 1) fun y2 =>
  bndO (newQ (base + 7) (allocB [(.str []), .nils, .nils] (base + 7)) s) fun y3 s =>
  bndO (storeQ y3 y1 3 s) fun _ s =>
  k (.mk .top x1 x2 .top .top x8 .top y2 .top) s
noncomputable def S18r5 {R : Type} (call : Nat → List AV → M AV) : W18 → Nat → AS → (W18 → AS → Option R) → Option R := @W18.rec (fun _ => Nat → AS → (W18 → AS → Option R) → Option R) fun x0 x1 x2 x6 x7 x8 x9 x11 x18 base s k =>
  bndO (quietQ call 37 [x8, x1, x2] s) fun y0 s =>
  k (.mk .top .top .top y0 x11 .top .top .top .top) s
noncomputable def S18c {R : Type} (call : Nat → List AV → M AV) (fuel : Nat) : SC V18 W18 R := sSeq (sReg 2 (S18r0 call)) (sSeq (sReg 7 (S18r1 call)) (sSeq (sSeq (sReg 2 (S18r2 call)) (sCond (@W18.rec (fun _ => AV) fun _ _ _ _ _ _ _ _ x18 => x18) (sSeq (sReg 2 (S18r3 call)) (sRet)) (sSkip))) (sSeq (sReg 10 (S18r4 call)) (sSeq (sReg 7 (S18r5 call)) (sRet)))))
noncomputable def S18e : Ex → W18 → AS → Option (AV × AS) := fun e w s => (@W18.rec (fun _ => Option (AV × AS)) fun _ _ _ x6 x7 _ _ _ _ => @Ex.rec (fun _ => Option (AV × AS)) (some (.tup [x6, x7], s)) (fun _ => none) (some (.tup [x6, x7], s)) e) w
noncomputable def S18 (call : Nat → List AV → M AV) (fuel : Nat) (args : List AV) (s : AS) : Option (AV × AS) := match args with
  | [x0, x1, x2] => S18c call fuel (.mk x0 x1 x2) s S18e
  | _ => none
theorem S18_sim (call : Nat → List AV → M AV) (fuel : Nat) : Sim (R := AV × AS) call fuel mi18 mo18 A18.code (S18c call fuel) := by
  refine sim_seq (sim_reg (fun ⟨x0, x1, x2⟩ _ _ _ => by kernel_rfl)) (sim_seq (sim_reg (fun ⟨x0, x1, x2, x6, x7, x8, x9, x11, x18⟩ _ _ _ => by kernel_rfl)) (sim_seq (sim_seq (sim_reg (fun ⟨x0, x1, x2, x6, x7, x8, x9, x11, x18⟩ _ _ _ => by kernel_rfl)) (sim_cond (fun ⟨x0, x1, x2, x6, x7, x8, x9, x11, x18⟩ => by kernel_rfl) (sim_seq (sim_reg (fun ⟨x0, x1, x2, x6, x7, x8, x9, x11, x18⟩ _ _ _ => by kernel_rfl)) (sim_ret)) (sim_skip))) (sim_seq (sim_reg (fun ⟨x0, x1, x2, x6, x7, x8, x9, x11, x18⟩ _ _ _ => by kernel_rfl)) (sim_seq (sim_reg (fun ⟨x0, x1, x2, x6, x7, x8, x9, x11, x18⟩ _ _ _ => by kernel_rfl)) (sim_ret)))))
theorem S18_ok (call : Nat → List AV → M AV) (fuel : Nat) (args : List AV) (s : AS) : afn call fuel A18 args s = S18 call fuel args s := by
  rcases args with _ | ⟨x0, _ | ⟨x1, _ | ⟨x2, _ | ⟨x3, r⟩⟩⟩⟩
  · kernel_rfl
  · kernel_rfl
  · kernel_rfl
  · exact (afn_sim (S18_sim call fuel) (v := (.mk x0 x1 x2)) (e2 := S18e) (by kernel_rfl) (by kernel_rfl) (fun e w s => by cases w; cases e <;> kernel_rfl)).trans (by kernel_rfl)
  · kernel_rfl
def A20 : AFn := { nargs := 1, ntmps := 13, res := [.tmp 2], code := .seq (.ops [⟨0, (some 2), none, .p (.mv (.const (.nils))), []⟩] 1 [0]) (.seq (.ops [⟨0, (some 7), none, .p (.mv (.tmp 0)), []⟩, ⟨1, (some 8), none, .e (.call true 39 [.tmp 7]), []⟩, ⟨2, (some 6), none, .p (.mv (.tmp 8)), []⟩, ⟨3, (some 9), none, .p (.extract (.tmp 6) 0), []⟩, ⟨4, (some 10), none, .p (.extract (.tmp 6) 1), []⟩, ⟨5, (some 11), none, .p (.extract (.tmp 6) 2), []⟩, ⟨6, (some 3), none, .p (.mv (.tmp 9)), []⟩, ⟨7, (some 4), none, .p (.mv (.tmp 10)), []⟩, ⟨8, (some 5), none, .p (.mv (.tmp 11)), []⟩] 9 [3]) (.seq (.ops [⟨0, (some 12), none, .p (.mv (.tmp 3)), []⟩, ⟨1, (some 2), none, .p (.mv (.tmp 12)), []⟩] 2 [2]) (.ret))) }
def N20 : Notes := { note := fun _ => none, keep := fun | 2 => [2] | 1 => [3] | 0 => [0] | _ => [] }
theorem A20_ok : cFn Try.prog qf N20 Try.f20 = some A20 := by kernel_rfl
inductive W20 where
  | mk (x0 x2 x3 : AV)
abbrev V20 := AV
def mo20 : W20 → Fr := fun ⟨x0, x2, x3⟩ => [x0, .top, x2, x3, .top, .top, .top, .top, .top, .top, .top, .top, .top]
def mi20 : V20 → Fr := fun x0 => [x0, .tup [], .tup [], .tup [], .tup [], .tup [], .tup [], .tup [], .tup [], .tup [], .tup [], .tup [], .tup []]
noncomputable def S20r0 {R : Type} (call : Nat → List AV → M AV) : V20 → Nat → AS → (W20 → AS → Option R) → Option R := fun x0 base s k =>
  k (.mk x0 .top .top) s
noncomputable def S20r1 {R : Type} (call : Nat → List AV → M AV) : W20 → Nat → AS → (W20 → AS → Option R) → Option R := @W20.rec (fun _ => Nat → AS → (W20 → AS → Option R) → Option R) fun x0 x2 x3 base s k =>
  bndO (quietQ call 39 [x0] s) fun y0 s =>
  bndP (extrQ y0 0) fun y1 =>
  bndP (extrQ y0 1) fun y2 =>
  bndP (extrQ y0 2) fun y3 =>
  k (.mk .top .top y1) s
noncomputable def S20r2 {R : Type} (call : Nat → List AV → M AV) : W20 → Nat → AS → (W20 → AS → Option R) → Option R := @W20.rec (fun _ => Nat → AS → (W20 → AS → Option R) → Option R) fun x0 x2 x3 base s k =>
  k (.mk .top x3 .top) s
noncomputable def S20c {R : Type} (call : Nat → List AV → M AV) (fuel : Nat) : SC V20 W20 R := sSeq (sReg 1 (S20r0 call)) (sSeq (sReg 9 (S20r1 call)) (sSeq (sReg 2 (S20r2 call)) (sRet)))
noncomputable def S20e : Ex → W20 → AS → Option (AV × AS) := fun e w s => (@W20.rec (fun _ => Option (AV × AS)) fun _ x2 _ => @Ex.rec (fun _ => Option (AV × AS)) (some (x2, s)) (fun _ => none) (some (x2, s)) e) w
noncomputable def S20 (call : Nat → List AV → M AV) (fuel : Nat) (args : List AV) (s : AS) : Option (AV × AS) := match args with
  | [x0] => S20c call fuel x0 s S20e
  | _ => none
theorem S20_sim (call : Nat → List AV → M AV) (fuel : Nat) : Sim (R := AV × AS) call fuel mi20 mo20 A20.code (S20c call fuel) := by
  refine sim_seq (sim_reg (fun x0 _ _ _ => by kernel_rfl)) (sim_seq (sim_reg (fun ⟨x0, x2, x3⟩ _ _ _ => by kernel_rfl)) (sim_seq (sim_reg (fun ⟨x0, x2, x3⟩ _ _ _ => by kernel_rfl)) (sim_ret)))
theorem S20_ok (call : Nat → List AV → M AV) (fuel : Nat) (args : List AV) (s : AS) : afn call fuel A20 args s = S20 call fuel args s := by
  rcases args with _ | ⟨x0, _ | ⟨x1, r⟩⟩
  · kernel_rfl
  · exact (afn_sim (S20_sim call fuel) (v := x0) (e2 := S20e) (by kernel_rfl) (by kernel_rfl) (fun e w s => by cases w; cases e <;> kernel_rfl)).trans (by kernel_rfl)
  · kernel_rfl
def A23 : AFn := { nargs := 2, ntmps := 45, res := [.tmp 4], code := .seq (.ops [⟨0, (some 3), none, .l (.box (.tmp 1)), []⟩, ⟨1, (some 4), none, .p (.mv (.const (.bool false))), []⟩] 2 [0, 3]) (.seq (.ops [⟨0, (some 7), none, .p (.mv (.tmp 0)), []⟩, ⟨1, (some 8), none, .p (.mkfn 43 [.tmp 3]), []⟩, ⟨2, (some 9), none, .e (.call true 42 [.tmp 7, .tmp 8]), []⟩, ⟨3, (some 5), none, .p (.mv (.tmp 9)), []⟩] 4 [0, 3, 5]) (.seq (.seq (.ops [⟨0, (some 10), none, .p (.mv (.tmp 5)), []⟩, ⟨1, (some 11), none, .p (.bin .lss (.tmp 10) (.const (.int .i64 0))), []⟩, ⟨2, (some 12), none, .p (.mv (.tmp 11)), []⟩, ⟨3, (some 13), (some (12, false)), .r (.load true 6 (.tmp 3)), []⟩, ⟨4, (some 14), (some (12, false)), .e (.call true 44 [.tmp 13]), []⟩, ⟨5, (some 15), (some (12, false)), .p (.notb (.tmp 14)), []⟩, ⟨6, (some 16), none, .p (.pick (.tmp 12) (.const (.bool true)) (.tmp 15)), []⟩] 7 [0, 3, 5, 16]) (.cond (.tmp 16) (.seq (.ops [⟨0, (some 4), none, .p (.mv (.const (.bool false))), []⟩] 1 [4]) (.ret)) (.skip))) (.seq (.ops [⟨0, (some 17), none, .p (.mv (.tmp 0)), []⟩, ⟨1, (some 18), none, .p (.mv (.tmp 5)), []⟩, ⟨2, (some 19), none, .p (.idx 2 (.tmp 17) (.tmp 18)), []⟩, ⟨3, (some 20), none, .p (.fld 1 (.tmp 19)), []⟩, ⟨4, (some 21), none, .r (.load false 1 (.tmp 20)), []⟩, ⟨5, (some 22), none, .p (.mkfn 46 [.tmp 3]), []⟩, ⟨6, (some 23), none, .e (.call true 45 [.tmp 21, .tmp 22]), []⟩, ⟨7, (some 6), none, .p (.mv (.tmp 23)), []⟩] 8 [0, 3, 5, 6]) (.seq (.ops [⟨0, (some 24), none, .p (.mv (.tmp 6)), []⟩, ⟨1, (some 25), none, .p (.bin .geq (.tmp 24) (.const (.int .i64 0))), []⟩, ⟨2, (some 26), none, .p (.mv (.tmp 25)), []⟩, ⟨3, (some 27), (some (26, true)), .p (.mv (.tmp 0)), []⟩, ⟨4, (some 28), (some (26, true)), .p (.mv (.tmp 5)), []⟩, ⟨5, (some 29), (some (26, true)), .p (.idx 2 (.tmp 27) (.tmp 28)), []⟩, ⟨6, (some 30), (some (26, true)), .p (.fld 1 (.tmp 29)), []⟩, ⟨8, (some 32), (some (26, true)), .p (.mv (.tmp 6)), []⟩, ⟨12, (some 36), (some (26, true)), .p (.fld 3 (.tmp 3)), []⟩, ⟨13, (some 37), (some (26, true)), .p (.fld 0 (.tmp 36)), []⟩, ⟨15, (some 39), (some (26, true)), .p (.fld 3 (.tmp 3)), []⟩, ⟨16, (some 40), (some (26, true)), .p (.fld 2 (.tmp 39)), []⟩, ⟨7, (some 31), (some (26, true)), .r (.load false 1 (.tmp 30)), []⟩, ⟨9, (some 33), (some (26, true)), .p (.idx 3 (.tmp 31) (.tmp 32)), []⟩, ⟨10, (some 34), (some (26, true)), .p (.fld 1 (.tmp 33)), []⟩, ⟨11, (some 35), (some (26, true)), .r (.load false 1 (.tmp 34)), []⟩, ⟨14, (some 38), (some (26, true)), .r (.load false 1 (.tmp 37)), []⟩, ⟨17, (some 41), (some (26, true)), .r (.load false 1 (.tmp 40)), []⟩, ⟨18, (some 42), (some (26, true)), .p (.build [.str [], .str [], .str []] [(0, 1, .tmp 38), (2, 1, .tmp 41)]), []⟩, ⟨19, (some 43), (some (26, true)), .e (.call true 47 [.tmp 35, .tmp 42]), []⟩, ⟨20, (some 44), none, .p (.pick (.tmp 26) (.tmp 43) (.const (.bool false))), []⟩, ⟨21, (some 4), none, .p (.mv (.tmp 44)), []⟩] 22 [4]) (.ret))))) }
def N23 : Notes := { note := fun | 5 => some ⟨[0, 1, 2, 3, 4, 5, 6, 8, 12, 13, 15, 16, 7, 9, 10, 11, 14, 17, 18, 19, 20, 21], [0, 1, 3, 7, 7, 31, 63, 127, 7, 511, 1023, 2047, 7, 4103, 12295, 7, 32775, 98311, 258055, 524287, 1048575, 2097151], [[], [], [], [], [], [], [], [], [], [], [], [], [], [], [], [], [], [], [], [], [], []]⟩ | _ => none, keep := fun | 5 => [4] | 4 => [0, 3, 5, 6] | 3 => [4] | 2 => [0, 3, 5, 16] | 1 => [0, 3, 5] | 0 => [0, 3] | _ => [] }
theorem A23_ok : cFn Try.prog qf N23 Try.f23 = some A23 := by kernel_rfl
inductive W23 where
  | mk (x0 x3 x4 x5 x6 x16 : AV)
inductive V23 where
  | mk (x0 x1 : AV)
def mo23 : W23 → Fr := fun ⟨x0, x3, x4, x5, x6, x16⟩ => [x0, .top, .top, x3, x4, x5, x6, .top, .top, .top, .top, .top, .top, .top, .top, .top, x16, .top, .top, .top, .top, .top, .top, .top, .top, .top, .top, .top, .top, .top, .top, .top, .top, .top, .top, .top, .top, .top, .top, .top, .top, .top, .top, .top, .top]
def mi23 : V23 → Fr := fun ⟨x0, x1⟩ => [x0, x1, .tup [], .tup [], .tup [], .tup [], .tup [], .tup [], .tup [], .tup [], .tup [], .tup [], .tup [], .tup [], .tup [], .tup [], .tup [], .tup [], .tup [], .tup [], .tup [], .tup [], .tup [], .tup [], .tup [], .tup [], .tup [], .tup [], .tup [], .tup [], .tup [], .tup [], .tup [], .tup [], .tup [], .tup [], .tup [], .tup [], .tup [], .tup [], .tup [], .tup [], .tup [], .tup [], .tup []]
noncomputable def S23r0 {R : Type} (call : Nat → List AV → M AV) : V23 → Nat → AS → (W23 → AS → Option R) → Option R := @V23.rec (fun _ => Nat → AS → (W23 → AS → Option R) → Option R) fun x0 x1 base s k =>
  bndO (newQ (base + 0) (boxB x1 (base + 0)) s) fun y0 s =>
  k (.mk x0 y0 .top .top .top .top) s
noncomputable def S23r1 {R : Type} (call : Nat → List AV → M AV) : W23 → Nat → AS → (W23 → AS → Option R) → Option R := @W23.rec (fun _ => Nat → AS → (W23 → AS → Option R) → Option R) fun x0 x3 x4 x5 x6 x16 base s k =>
  bndP (some (.fn 43 [x3])) fun y0 =>
  bndO (quietQ call 42 [x0, y0] s) fun y1 s =>
  k (.mk x0 x3 .top y1 .top .top) s
noncomputable def S23r2 {R : Type} (call : Nat → List AV → M AV) : W23 → Nat → AS → (W23 → AS → Option R) → Option R := @W23.rec (fun _ => Nat → AS → (W23 → AS → Option R) → Option R) fun x0 x3 x4 x5 x6 x16 base s k =>
  bndP (binQ .lss x5 ((.int .i64 0) : AV)) fun y0 =>
  bndO (gd (wantG y0 false) (fun s => (pureO (loadQ true 6 x3 s.h) s)) s) fun y1 s =>
  bndO (gd (wantG y0 false) (fun s => (quietQ call 44 [y1] s)) s) fun y2 s =>
  bndO (gd (wantG y0 false) (fun s => (pureO (notA y2) s)) s) fun y3 s =>
  bndP (pickA y0 ((.bool true) : AV) y3) fun y4 =>
  k (.mk x0 x3 .top x5 .top y4) s
noncomputable def S23r3 {R : Type} (call : Nat → List AV → M AV) : W23 → Nat → AS → (W23 → AS → Option R) → Option R := @W23.rec (fun _ => Nat → AS → (W23 → AS → Option R) → Option R) fun x0 x3 x4 x5 x6 x16 base s k =>
  k (.mk .top .top ((.bool false) : AV) .top .top .top) s
noncomputable def S23r4 {R : Type} (call : Nat → List AV → M AV) : W23 → Nat → AS → (W23 → AS → Option R) → Option R := @W23.rec (fun _ => Nat → AS → (W23 → AS → Option R) → Option R) fun x0 x3 x4 x5 x6 x16 base s k =>
  bndP (idxQ 2 x0 x5) fun y0 =>
  bndP (fldA 1 y0) fun y1 =>
  bndP (loadQ false 1 y1 s.h) fun y2 =>
  bndP (some (.fn 46 [x3])) fun y3 =>
  bndO (quietQ call 45 [y2, y3] s) fun y4 s =>
  k (.mk x0 x3 .top x5 y4 .top) s
noncomputable def S23r5 {R : Type} (call : Nat → List AV → M AV) : W23 → Nat → AS → (W23 → AS → Option R) → Option R := @W23.rec (fun _ => Nat → AS → (W23 → AS → Option R) → Option R) fun x0 x3 x4 x5 x6 x16 base s k =>
  bndP (binQ .geq x6 ((.int .i64 0) : AV)) fun y0 =>
  bndO (gd (wantG y0 true) (fun s => (pureO (some x0) s)) s) fun y1 s =>
  bndO (gd (wantG y0 true) (fun s => (pureO (some x5) s)) s) fun y2 s =>
  bndO (gd (wantG y0 true) (fun s => (pureO (idxQ 2 y1 y2) s)) s) fun y3 s =>
  bndO (gd (wantG y0 true) (fun s => (pureO (fldA 1 y3) s)) s) fun y4 s =>
  bndO (gd (wantG y0 true) (fun s => (pureO (some x6) s)) s) fun y5 s =>
  bndO (gd (wantG y0 true) (fun s => (pureO (fldA 3 x3) s)) s) fun y6 s =>
  bndO (gd (wantG y0 true) (fun s => (pureO (fldA 0 y6) s)) s) fun y7 s =>
  bndO (gd (wantG y0 true) (fun s => (pureO (fldA 3 x3) s)) s) fun y8 s =>
  bndO (gd (wantG y0 true) (fun s => (pureO (fldA 2 y8) s)) s) fun y9 s =>
  bndO (gd (wantG y0 true) (fun s => (pureO (loadQ false 1 y4 s.h) s)) s) fun y10 s =>
  bndO (gd (wantG y0 true) (fun s => (pureO (idxQ 3 y10 y5) s)) s) fun y11 s =>
  bndO (gd (wantG y0 true) (fun s => (pureO (fldA 1 y11) s)) s) fun y12 s =>
  bndO (gd (wantG y0 true) (fun s => (pureO (loadQ false 1 y12 s.h) s)) s) fun y13 s =>
  bndO (gd (wantG y0 true) (fun s => (pureO (loadQ false 1 y7 s.h) s)) s) fun y14 s =>
  bndO (gd (wantG y0 true) (fun s => (pureO (loadQ false 1 y9 s.h) s)) s) fun y15 s =>
  bndO (gd (wantG y0 true) (fun s => (pureO (buildA [(.str []), (.str []), (.str [])] [(0, 1, y14), (2, 1, y15)]) s)) s) fun y16 s =>
  bndO (gd (wantG y0 true) (fun s => (quietQ call 47 [y13, y16] s)) s) fun y17 s =>
  bndP (pickA y0 y17 ((.bool false) : AV)) fun y18 =>
  k (.mk .top .top y18 .top .top .top) s
noncomputable def S23c {R : Type} (call : Nat → List AV → M AV) (fuel : Nat) : SC V23 W23 R := sSeq (sReg 2 (S23r0 call)) (sSeq (sReg 4 (S23r1 call)) (sSeq (sSeq (sReg 7 (S23r2 call)) (sCond (@W23.rec (fun _ => AV) fun _ _ _ _ _ x16 => x16) (sSeq (sReg 1 (S23r3 call)) (sRet)) (sSkip))) (sSeq (sReg 8 (S23r4 call)) (sSeq (sReg 22 (S23r5 call)) (sRet)))))
noncomputable def S23e : Ex → W23 → AS → Option (AV × AS) := fun e w s => (@W23.rec (fun _ => Option (AV × AS)) fun _ _ x4 _ _ _ => @Ex.rec (fun _ => Option (AV × AS)) (some (x4, s)) (fun _ => none) (some (x4, s)) e) w
noncomputable def S23 (call : Nat → List AV → M AV) (fuel : Nat) (args : List AV) (s : AS) : Option (AV × AS) := match args with
  | [x0, x1] => S23c call fuel (.mk x0 x1) s S23e
  | _ => none
theorem S23_sim (call : Nat → List AV → M AV) (fuel : Nat) : Sim (R := AV × AS) call fuel mi23 mo23 A23.code (S23c call fuel) := by
  refine sim_seq (sim_reg (fun ⟨x0, x1⟩ _ _ _ => by kernel_rfl)) (sim_seq (sim_reg (fun ⟨x0, x3, x4, x5, x6, x16⟩ _ _ _ => by kernel_rfl)) (sim_seq (sim_seq (sim_reg (fun ⟨x0, x3, x4, x5, x6, x16⟩ _ _ _ => by kernel_rfl)) (sim_cond (fun ⟨x0, x3, x4, x5, x6, x16⟩ => by kernel_rfl) (sim_seq (sim_reg (fun ⟨x0, x3, x4, x5, x6, x16⟩ _ _ _ => by kernel_rfl)) (sim_ret)) (sim_skip))) (sim_seq (sim_reg (fun ⟨x0, x3, x4, x5, x6, x16⟩ _ _ _ => by kernel_rfl)) (sim_seq (sim_reg (fun ⟨x0, x3, x4, x5, x6, x16⟩ _ _ _ => by kernel_rfl)) (sim_ret)))))
theorem S23_ok (call : Nat → List AV → M AV) (fuel : Nat) (args : List AV) (s : AS) : afn call fuel A23 args s = S23 call fuel args s := by
  rcases args with _ | ⟨x0, _ | ⟨x1, _ | ⟨x2, r⟩⟩⟩
  · kernel_rfl
  · kernel_rfl
  · exact (afn_sim (S23_sim call fuel) (v := (.mk x0 x1)) (e2 := S23e) (by kernel_rfl) (by kernel_rfl) (fun e w s => by cases w; cases e <;> kernel_rfl)).trans (by kernel_rfl)
  · kernel_rfl
def A35 : AFn := { nargs := 1, ntmps := 61, res := [.tmp 2, .tmp 3], code := .seq (.ops [⟨0, (some 2), none, .p (.mv (.const (.nilp))), []⟩, ⟨1, (some 3), none, .p (.mv (.const (.int .i64 0))), []⟩] 2 [0]) (.seq (.ops [⟨0, (some 12), none, .l .mkmap, []⟩, ⟨1, (some 13), none, .l .mkmap, []⟩, ⟨2, (some 14), none, .l .mkmap, []⟩, ⟨3, (some 15), none, .p (.build [.nilm, .nilm, .nilm] [(0, 1, .tmp 12), (1, 1, .tmp 13), (2, 1, .tmp 14)]), []⟩, ⟨4, (some 16), none, .l (.box (.tmp 15)), []⟩, ⟨5, (some 4), none, .p (.mv (.tmp 16)), []⟩] 6 [0, 4]) (.seq (.seq (.ops [⟨0, (some 17), none, .p (.mv (.tmp 4)), []⟩, ⟨1, (some 18), none, .p (.mv (.tmp 0)), []⟩, ⟨2, (some 19), none, .e (.call false 66 [.tmp 17, .tmp 18]), []⟩, ⟨3, (some 5), none, .p (.mv (.tmp 19)), []⟩] 4 [0, 4, 5]) (.seq (.ops [⟨0, (some 20), none, .p (.mv (.tmp 5)), []⟩, ⟨1, (some 21), none, .p (.bin .neq (.tmp 20) (.const (.int .i64 0))), []⟩] 2 [0, 4, 5, 21]) (.cond (.tmp 21) (.seq (.ops [⟨0, (some 22), none, .p (.mv (.tmp 5)), []⟩, ⟨1, (some 2), none, .p (.mv (.const (.nilp))), []⟩, ⟨2, (some 3), none, .p (.mv (.tmp 22)), []⟩] 3 [2, 3]) (.ret)) (.skip)))) (.seq (.ops [⟨0, (some 6), none, .p (.mv (.const (.nils))), []⟩] 1 [0, 4, 6]) (.seq (.seq (.ops [⟨0, (some 23), none, .p (.mv (.tmp 0)), []⟩, ⟨1, (some 24), none, .p (.lenS false (.tmp 23)), []⟩, ⟨2, (some 25), none, .p (.mv (.const (.int .i64 0))), []⟩] 3 [4, 6, 23, 24, 25]) (.block 0 (.loop (.seq (.ops [⟨0, (some 26), none, .p (.bin .lss (.tmp 25) (.tmp 24)), []⟩] 1 [4, 6, 23, 24, 25, 26]) (.seq (.cond (.tmp 26) (.skip) (.exit 0)) (.seq (.block 1 (.seq (.ops [⟨0, (some 27), none, .p (.idx 2 (.tmp 23) (.tmp 25)), []⟩, ⟨1, (some 28), none, .r (.load true 2 (.tmp 27)), []⟩, ⟨2, (some 8), none, .l (.alloc [.str [], .nils]), []⟩, ⟨3, none, none, .e (.store (.tmp 8) (.tmp 28) 2), []⟩] 4 [4, 6, 8, 23, 24, 25]) (.seq (.ops [⟨0, (some 29), none, .p (.fld 1 (.tmp 8)), []⟩, ⟨1, (some 30), none, .r (.load false 1 (.tmp 29)), []⟩, ⟨2, (some 31), none, .p (.lenS false (.tmp 30)), []⟩, ⟨3, (some 32), none, .p (.mv (.const (.int .i64 0))), []⟩] 4 [4, 6, 8, 23, 24, 25, 30, 31, 32]) (.block 2 (.loop (.seq (.ops [⟨0, (some 33), none, .p (.bin .lss (.tmp 32) (.tmp 31)), []⟩] 1 [4, 6, 8, 23, 24, 25, 30, 31, 32, 33]) (.seq (.cond (.tmp 33) (.skip) (.exit 2)) (.seq (.block 3 (.seq (.ops [⟨0, (some 34), none, .p (.idx 3 (.tmp 30) (.tmp 32)), []⟩, ⟨1, (some 35), none, .r (.load true 3 (.tmp 34)), []⟩, ⟨2, (some 10), none, .l (.alloc [.str [], .nils, .nils]), []⟩, ⟨3, none, none, .e (.store (.tmp 10) (.tmp 35) 3), []⟩] 4 [4, 6, 8, 10, 23, 24, 25, 30, 31, 32]) (.seq (.seq (.ops [⟨0, (some 36), none, .p (.mv (.tmp 4)), []⟩, ⟨1, (some 37), none, .p (.fld 0 (.tmp 8)), []⟩, ⟨2, (some 38), none, .r (.load false 1 (.tmp 37)), []⟩, ⟨3, (some 39), none, .r (.load true 3 (.tmp 10)), []⟩, ⟨4, (some 40), none, .e (.call true 67 [.tmp 36, .tmp 38, .tmp 39]), []⟩, ⟨5, (some 11), none, .p (.mv (.tmp 40)), []⟩] 6 [4, 6, 8, 10, 11, 23, 24, 25, 30, 31, 32]) (.seq (.ops [⟨0, (some 41), none, .p (.mv (.tmp 11)), []⟩, ⟨1, (some 42), none, .p (.bin .neq (.tmp 41) (.const (.int .i64 0))), []⟩] 2 [4, 6, 8, 10, 11, 23, 24, 25, 30, 31, 32, 42]) (.cond (.tmp 42) (.seq (.ops [⟨0, (some 43), none, .p (.mv (.tmp 11)), []⟩, ⟨1, (some 2), none, .p (.mv (.const (.nilp))), []⟩, ⟨2, (some 3), none, .p (.mv (.tmp 43)), []⟩] 3 [2, 3]) (.ret)) (.skip)))) (.ops [⟨0, (some 44), none, .p (.mv (.tmp 6)), []⟩, ⟨1, (some 45), none, .p (.fld 0 (.tmp 8)), []⟩, ⟨2, (some 46), none, .r (.load false 1 (.tmp 45)), []⟩, ⟨3, (some 47), none, .p (.fld 0 (.tmp 10)), []⟩, ⟨4, (some 48), none, .r (.load false 1 (.tmp 47)), []⟩, ⟨5, (some 49), none, .p (.build [.str [], .str []] [(0, 1, .tmp 46), (1, 1, .tmp 48)]), []⟩, ⟨6, (some 50), none, .k { z := [.str [], .str []], len := 1, parts := [(0, .tmp 49)] }, []⟩, ⟨7, (some 51), none, .e (.append 2 32 (.tmp 44) (.tmp 50)), []⟩, ⟨8, (some 6), none, .p (.mv (.tmp 51)), []⟩] 9 [4, 6, 8, 23, 24, 25, 30, 31, 32])))) (.ops [⟨0, (some 52), none, .p (.bin .add (.tmp 32) (.const (.int .i64 1))), []⟩, ⟨1, (some 32), none, .p (.mv (.tmp 52)), []⟩] 2 [4, 6, 8, 23, 24, 25, 30, 31, 32]))))))))) (.ops [⟨0, (some 53), none, .p (.bin .add (.tmp 25) (.const (.int .i64 1))), []⟩, ⟨1, (some 25), none, .p (.mv (.tmp 53)), []⟩] 2 [4, 6, 23, 24, 25]))))))) (.seq (.ops [⟨0, (some 54), none, .p (.mv (.tmp 6)), []⟩, ⟨1, (some 55), none, .e (.call false 68 [.tmp 54]), []⟩] 2 [4, 6]) (.seq (.seq (.ops [⟨0, (some 56), none, .p (.mv (.tmp 4)), []⟩, ⟨1, (some 57), none, .p (.mv (.tmp 6)), []⟩, ⟨2, (some 58), none, .e (.call false 69 [.tmp 56, .tmp 57]), []⟩, ⟨3, (some 59), none, .p (.notb (.tmp 58)), []⟩] 4 [4, 59]) (.cond (.tmp 59) (.seq (.ops [⟨0, (some 2), none, .p (.mv (.const (.nilp))), []⟩, ⟨1, (some 3), none, .p (.mv (.const (.int .i64 14))), []⟩] 2 [2, 3]) (.ret)) (.skip))) (.seq (.ops [⟨0, (some 60), none, .p (.mv (.tmp 4)), []⟩, ⟨1, (some 2), none, .p (.mv (.tmp 60)), []⟩, ⟨2, (some 3), none, .p (.mv (.const (.int .i64 0))), []⟩] 3 [2, 3]) (.ret)))))))) }
def N35 : Notes := { note := fun _ => none, keep := fun | 21 => [2, 3] | 20 => [2, 3] | 19 => [4, 59] | 18 => [4, 6] | 17 => [4, 6, 23, 24, 25] | 16 => [4, 6, 8, 23, 24, 25, 30, 31, 32] | 15 => [4, 6, 8, 23, 24, 25, 30, 31, 32] | 14 => [2, 3] | 13 => [4, 6, 8, 10, 11, 23, 24, 25, 30, 31, 32, 42] | 12 => [4, 6, 8, 10, 11, 23, 24, 25, 30, 31, 32] | 11 => [4, 6, 8, 10, 23, 24, 25, 30, 31, 32] | 10 => [4, 6, 8, 23, 24, 25, 30, 31, 32, 33] | 9 => [4, 6, 8, 23, 24, 25, 30, 31, 32] | 8 => [4, 6, 8, 23, 24, 25] | 7 => [4, 6, 23, 24, 25, 26] | 6 => [4, 6, 23, 24, 25] | 5 => [0, 4, 6] | 4 => [2, 3] | 3 => [0, 4, 5, 21] | 2 => [0, 4, 5] | 1 => [0, 4] | 0 => [0] | _ => [] }
theorem A35_ok : cFn Try.prog qf N35 Try.f35 = some A35 := by kernel_rfl
inductive W35 where
  | mk (x0 x2 x3 x4 x5 x6 x8 x10 x11 x21 x23 x24 x25 x26 x30 x31 x32 x33 x42 x59 : AV)
abbrev V35 := AV
def mo35 : W35 → Fr := fun ⟨x0, x2, x3, x4, x5, x6, x8, x10, x11, x21, x23, x24, x25, x26, x30, x31, x32, x33, x42, x59⟩ => [x0, .top, x2, x3, x4, x5, x6, .top, x8, .top, x10, x11, .top, .top, .top, .top, .top, .top, .top, .top, .top, x21, .top, x23, x24, x25, x26, .top, .top, .top, x30, x31, x32, x33, .top, .top, .top, .top, .top, .top, .top, .top, x42, .top, .top, .top, .top, .top, .top, .top, .top, .top, .top, .top, .top, .top, .top, .top, .top, x59, .top]
def mi35 : V35 → Fr := fun x0 => [x0, .tup [], .tup [], .tup [], .tup [], .tup [], .tup [], .tup [], .tup [], .tup [], .tup [], .tup [], .tup [], .tup [], .tup [], .tup [], .tup [], .tup [], .tup [], .tup [], .tup [], .tup [], .tup [], .tup [], .tup [], .tup [], .tup [], .tup [], .tup [], .tup [], .tup [], .tup [], .tup [], .tup [], .tup [], .tup [], .tup [], .tup [], .tup [], .tup [], .tup [], .tup [], .tup [], .tup [], .tup [], .tup [], .tup [], .tup [], .tup [], .tup [], .tup [], .tup [], .tup [], .tup [], .tup [], .tup [], .tup [], .tup [], .tup [], .tup [], .tup []]
noncomputable def S35r0 {R : Type} (call : Nat → List AV → M AV) : V35 → Nat → AS → (W35 → AS → Option R) → Option R := fun x0 base s k =>
  k (.mk x0 .top .top .top .top .top .top .top .top .top .top .top .top .top .top .top .top .top .top .top) s
noncomputable def S35r1 {R : Type} (call : Nat → List AV → M AV) : W35 → Nat → AS → (W35 → AS → Option R) → Option R := @W35.rec (fun _ => Nat → AS → (W35 → AS → Option R) → Option R) fun x0 x2 x3 x4 x5 x6 x8 x10 x11 x21 x23 x24 x25 x26 x30 x31 x32 x33 x42 x59 base s k =>
  bndO (newQ (base + 0) (mapB (base + 0)) s) fun y0 s =>
  bndO (newQ (base + 1) (mapB (base + 1)) s) fun y1 s =>
  bndO (newQ (base + 2) (mapB (base + 2)) s) fun y2 s =>
  bndP (buildA [.nilm, .nilm, .nilm] [(0, 1, y0), (1, 1, y1), (2, 1, y2)]) fun y3 =>
  bndO (newQ (base + 4) (boxB y3 (base + 4)) s) fun y4 s =>
  k (.mk x0 .top .top y4 .top .top .top .top .top .top .top .top .top .top .top .top .top .top .top .top) s
noncomputable def S35r2 {R : Type} (call : Nat → List AV → M AV) : W35 → Nat → AS → (W35 → AS → Option R) → Option R := @W35.rec (fun _ => Nat → AS → (W35 → AS → Option R) → Option R) fun x0 x2 x3 x4 x5 x6 x8 x10 x11 x21 x23 x24 x25 x26 x30 x31 x32 x33 x42 x59 base s k =>
  bndO (call 66 [x4, x0] s) fun y0 s =>
  k (.mk x0 .top .top x4 y0 .top .top .top .top .top .top .top .top .top .top .top .top .top .top .top) s
noncomputable def S35r3 {R : Type} (call : Nat → List AV → M AV) : W35 → Nat → AS → (W35 → AS → Option R) → Option R := @W35.rec (fun _ => Nat → AS → (W35 → AS → Option R) → Option R) fun x0 x2 x3 x4 x5 x6 x8 x10 x11 x21 x23 x24 x25 x26 x30 x31 x32 x33 x42 x59 base s k =>
  bndP (binQ .neq x5 ((.int .i64 0) : AV)) fun y0 =>
  k (.mk x0 .top .top x4 x5 .top .top .top .top y0 .top .top .top .top .top .top .top .top .top .top) s
noncomputable def S35r4 {R : Type} (call : Nat → List AV → M AV) : W35 → Nat → AS → (W35 → AS → Option R) → Option R := @W35.rec (fun _ => Nat → AS → (W35 → AS → Option R) → Option R) fun x0 x2 x3 x4 x5 x6 x8 x10 x11 x21 x23 x24 x25 x26 x30 x31 x32 x33 x42 x59 base s k =>
  k (.mk .top (.nilp : AV) x5 .top .top .top .top .top .top .top .top .top .top .top .top .top .top .top .top .top) s
noncomputable def S35r5 {R : Type} (call : Nat → List AV → M AV) : W35 → Nat → AS → (W35 → AS → Option R) → Option R := @W35.rec (fun _ => Nat → AS → (W35 → AS → Option R) → Option R) fun x0 x2 x3 x4 x5 x6 x8 x10 x11 x21 x23 x24 x25 x26 x30 x31 x32 x33 x42 x59 base s k =>
  k (.mk x0 .top .top x4 .top (.nils : AV) .top .top .top .top .top .top .top .top .top .top .top .top .top .top) s
noncomputable def S35r6 {R : Type} (call : Nat → List AV → M AV) : W35 → Nat → AS → (W35 → AS → Option R) → Option R := @W35.rec (fun _ => Nat → AS → (W35 → AS → Option R) → Option R) fun x0 x2 x3 x4 x5 x6 x8 x10 x11 x21 x23 x24 x25 x26 x30 x31 x32 x33 x42 x59 base s k =>
  bndP (lenAQ false x0) fun y0 =>
  k (.mk .top .top .top x4 .top x6 .top .top .top .top x0 y0 ((.int .i64 0) : AV) .top .top .top .top .top .top .top) s
noncomputable def S35r7 {R : Type} (call : Nat → List AV → M AV) : W35 → Nat → AS → (W35 → AS → Option R) → Option R := @W35.rec (fun _ => Nat → AS → (W35 → AS → Option R) → Option R) fun x0 x2 x3 x4 x5 x6 x8 x10 x11 x21 x23 x24 x25 x26 x30 x31 x32 x33 x42 x59 base s k =>
  bndP (binQ .lss x25 x24) fun y0 =>
  k (.mk .top .top .top x4 .top x6 .top .top .top .top x23 x24 x25 y0 .top .top .top .top .top .top) s
noncomputable def S35r8 {R : Type} (call : Nat → List AV → M AV) : W35 → Nat → AS → (W35 → AS → Option R) → Option R := @W35.rec (fun _ => Nat → AS → (W35 → AS → Option R) → Option R) fun x0 x2 x3 x4 x5 x6 x8 x10 x11 x21 x23 x24 x25 x26 x30 x31 x32 x33 x42 x59 base s k =>
  bndP (idxQ 2 x23 x25) fun y0 =>
  bndP (loadQ true 2 y0 s.h) fun y1 =>
  bndO (newQ (base + 2) (allocB [(.str []), .nils] (base + 2)) s) fun y2 s =>
  bndO (storeQ y2 y1 2 s) fun _ s =>
  k (.mk .top .top .top x4 .top x6 y2 .top .top .top x23 x24 x25 .top .top .top .top .top .top .top) s
noncomputable def S35r9 {R : Type} (call : Nat → List AV → M AV) : W35 → Nat → AS → (W35 → AS → Option R) → Option R := @W35.rec (fun _ => Nat → AS → (W35 → AS → Option R) → Option R) fun x0 x2 x3 x4 x5 x6 x8 x10 x11 x21 x23 x24 x25 x26 x30 x31 x32 x33 x42 x59 base s k =>
  bndP (fldA 1 x8) fun y0 =>
  bndP (loadQ false 1 y0 s.h) fun y1 =>
  bndP (lenAQ false y1) fun y2 =>
  k (.mk .top .top .top x4 .top x6 x8 .top .top .top x23 x24 x25 .top y1 y2 ((.int .i64 0) : AV) .top .top .top) s
noncomputable def S35r10 {R : Type} (call : Nat → List AV → M AV) : W35 → Nat → AS → (W35 → AS → Option R) → Option R := @W35.rec (fun _ => Nat → AS → (W35 → AS → Option R) → Option R) fun x0 x2 x3 x4 x5 x6 x8 x10 x11 x21 x23 x24 x25 x26 x30 x31 x32 x33 x42 x59 base s k =>
  bndP (binQ .lss x32 x31) fun y0 =>
  k (.mk .top .top .top x4 .top x6 x8 .top .top .top x23 x24 x25 .top x30 x31 x32 y0 .top .top) s
noncomputable def S35r11 {R : Type} (call : Nat → List AV → M AV) : W35 → Nat → AS → (W35 → AS → Option R) → Option R := @W35.rec (fun _ => Nat → AS → (W35 → AS → Option R) → Option R) fun x0 x2 x3 x4 x5 x6 x8 x10 x11 x21 x23 x24 x25 x26 x30 x31 x32 x33 x42 x59 base s k =>
  bndP (idxQ 3 x30 x32) fun y0 =>
  bndP (loadQ true 3 y0 s.h) fun y1 =>
  bndO (newQ (base + 2) (allocB [(.str []), .nils, .nils] (base + 2)) s) fun y2 s =>
  bndO (storeQ y2 y1 3 s) fun _ s =>
  k (.mk .top .top .top x4 .top x6 x8 y2 .top .top x23 x24 x25 .top x30 x31 x32 .top .top .top) s
noncomputable def S35r12 {R : Type} (call : Nat → List AV → M AV) : W35 → Nat → AS → (W35 → AS → Option R) → Option R := @W35.rec (fun _ => Nat → AS → (W35 → AS → Option R) → Option R) fun x0 x2 x3 x4 x5 x6 x8 x10 x11 x21 x23 x24 x25 x26 x30 x31 x32 x33 x42 x59 base s k =>
  bndP (fldA 0 x8) fun y0 =>
  bndP (loadQ false 1 y0 s.h) fun y1 =>
  bndP (loadQ true 3 x10 s.h) fun y2 =>
  bndO (quietQ call 67 [x4, y1, y2] s) fun y3 s =>
  k (.mk .top .top .top x4 .top x6 x8 x10 y3 .top x23 x24 x25 .top x30 x31 x32 .top .top .top) s
noncomputable def S35r13 {R : Type} (call : Nat → List AV → M AV) : W35 → Nat → AS → (W35 → AS → Option R) → Option R := @W35.rec (fun _ => Nat → AS → (W35 → AS → Option R) → Option R) fun x0 x2 x3 x4 x5 x6 x8 x10 x11 x21 x23 x24 x25 x26 x30 x31 x32 x33 x42 x59 base s k =>
  bndP (binQ .neq x11 ((.int .i64 0) : AV)) fun y0 =>
  k (.mk .top .top .top x4 .top x6 x8 x10 x11 .top x23 x24 x25 .top x30 x31 x32 .top y0 .top) s
noncomputable def S35r14 {R : Type} (call : Nat → List AV → M AV) : W35 → Nat → AS → (W35 → AS → Option R) → Option R := @W35.rec (fun _ => Nat → AS → (W35 → AS → Option R) → Option R) fun x0 x2 x3 x4 x5 x6 x8 x10 x11 x21 x23 x24 x25 x26 x30 x31 x32 x33 x42 x59 base s k =>
  k (.mk .top (.nilp : AV) x11 .top .top .top .top .top .top .top .top .top .top .top .top .top .top .top .top .top) s
noncomputable def S35r15 {R : Type} (call : Nat → List AV → M AV) : W35 → Nat → AS → (W35 → AS → Option R) → Option R := @W35.rec (fun _ => Nat → AS → (W35 → AS → Option R) → Option R) fun x0 x2 x3 x4 x5 x6 x8 x10 x11 x21 x23 x24 x25 x26 x30 x31 x32 x33 x42 x59 base s k =>
  bndP (fldA 0 x8) fun y0 =>
  bndP (loadQ false 1 y0 s.h) fun y1 =>
  bndP (fldA 0 x10) fun y2 =>
  bndP (loadQ false 1 y2 s.h) fun y3 =>
  bndP (buildA [(.str []), (.str [])] [(0, 1, y1), (1, 1, y3)]) fun y4 =>
  bndP (rowsA [(.str []), (.str [])] 1 [(0, y4)]) fun y5 =>
  bndO (appQ (base + 7) 2 32 x6 y5 s) fun y6 s =>
  k (.mk .top .top .top x4 .top y6 x8 .top .top .top x23 x24 x25 .top x30 x31 x32 .top .top .top) s
noncomputable def S35r16 {R : Type} (call : Nat → List AV → M AV) : W35 → Nat → AS → (W35 → AS → Option R) → Option R := @W35.rec (fun _ => Nat → AS → (W35 → AS → Option R) → Option R) fun x0 x2 x3 x4 x5 x6 x8 x10 x11 x21 x23 x24 x25 x26 x30 x31 x32 x33 x42 x59 base s k =>
  bndP (binQ .add x32 ((.int .i64 1) : AV)) fun y0 =>
  k (.mk .top .top .top x4 .top x6 x8 .top .top .top x23 x24 x25 .top x30 x31 y0 .top .top .top) s
noncomputable def S35b17 {R : Type} (call : Nat → List AV → M AV) (fuel : Nat) : SC W35 W35 R := sSeq (sReg 1 (S35r10 call)) (sSeq (sCond (@W35.rec (fun _ => AV) fun _ _ _ _ _ _ _ _ _ _ _ _ _ _ _ _ _ x33 _ _ => x33) (sSkip) (sExit 2)) (sSeq (sBlock 3 (sSeq (sReg 4 (S35r11 call)) (sSeq (sSeq (sReg 6 (S35r12 call)) (sSeq (sReg 2 (S35r13 call)) (sCond (@W35.rec (fun _ => AV) fun _ _ _ _ _ _ _ _ _ _ _ _ _ _ _ _ _ _ x42 _ => x42) (sSeq (sReg 3 (S35r14 call)) (sRet)) (sSkip)))) (sReg 9 (S35r15 call))))) (sReg 2 (S35r16 call))))
noncomputable def S35r18 {R : Type} (call : Nat → List AV → M AV) : W35 → Nat → AS → (W35 → AS → Option R) → Option R := @W35.rec (fun _ => Nat → AS → (W35 → AS → Option R) → Option R) fun x0 x2 x3 x4 x5 x6 x8 x10 x11 x21 x23 x24 x25 x26 x30 x31 x32 x33 x42 x59 base s k =>
  bndP (binQ .add x25 ((.int .i64 1) : AV)) fun y0 =>
  k (.mk .top .top .top x4 .top x6 .top .top .top .top x23 x24 y0 .top .top .top .top .top .top .top) s
noncomputable def S35b19 {R : Type} (call : Nat → List AV → M AV) (fuel : Nat) : SC W35 W35 R := sSeq (sReg 1 (S35r7 call)) (sSeq (sCond (@W35.rec (fun _ => AV) fun _ _ _ _ _ _ _ _ _ _ _ _ _ x26 _ _ _ _ _ _ => x26) (sSkip) (sExit 0)) (sSeq (sBlock 1 (sSeq (sReg 4 (S35r8 call)) (sSeq (sReg 4 (S35r9 call)) (sBlock 2 (sLoop fuel (S35b17 call fuel)))))) (sReg 2 (S35r18 call))))
noncomputable def S35r20 {R : Type} (call : Nat → List AV → M AV) : W35 → Nat → AS → (W35 → AS → Option R) → Option R := @W35.rec (fun _ => Nat → AS → (W35 → AS → Option R) → Option R) fun x0 x2 x3 x4 x5 x6 x8 x10 x11 x21 x23 x24 x25 x26 x30 x31 x32 x33 x42 x59 base s k =>
  bndO (call 68 [x6] s) fun y0 s =>
  k (.mk .top .top .top x4 .top x6 .top .top .top .top .top .top .top .top .top .top .top .top .top .top) s
noncomputable def S35r21 {R : Type} (call : Nat → List AV → M AV) : W35 → Nat → AS → (W35 → AS → Option R) → Option R := @W35.rec (fun _ => Nat → AS → (W35 → AS → Option R) → Option R) fun x0 x2 x3 x4 x5 x6 x8 x10 x11 x21 x23 x24 x25 x26 x30 x31 x32 x33 x42 x59 base s k =>
  bndO (call 69 [x4, x6] s) fun y0 s =>
  bndP (notA y0) fun y1 =>
  k (.mk .top .top .top x4 .top .top .top .top .top .top .top .top .top .top .top .top .top .top .top y1) s
noncomputable def S35r22 {R : Type} (call : Nat → List AV → M AV) : W35 → Nat → AS → (W35 → AS → Option R) → Option R := @W35.rec (fun _ => Nat → AS → (W35 → AS → Option R) → Option R) fun x0 x2 x3 x4 x5 x6 x8 x10 x11 x21 x23 x24 x25 x26 x30 x31 x32 x33 x42 x59 base s k =>
  k (.mk .top (.nilp : AV) ((.int .i64 14) : AV) .top .top .top .top .top .top .top .top .top .top .top .top .top .top .top .top .top) s
noncomputable def S35r23 {R : Type} (call : Nat → List AV → M AV) : W35 → Nat → AS → (W35 → AS → Option R) → Option R := @W35.rec (fun _ => Nat → AS → (W35 → AS → Option R) → Option R) fun x0 x2 x3 x4 x5 x6 x8 x10 x11 x21 x23 x24 x25 x26 x30 x31 x32 x33 x42 x59 base s k =>
  k (.mk .top x4 ((.int .i64 0) : AV) .top .top .top .top .top .top .top .top .top .top .top .top .top .top .top .top .top) s
noncomputable def S35c {R : Type} (call : Nat → List AV → M AV) (fuel : Nat) : SC V35 W35 R := sSeq (sReg 2 (S35r0 call)) (sSeq (sReg 6 (S35r1 call)) (sSeq (sSeq (sReg 4 (S35r2 call)) (sSeq (sReg 2 (S35r3 call)) (sCond (@W35.rec (fun _ => AV) fun _ _ _ _ _ _ _ _ _ x21 _ _ _ _ _ _ _ _ _ _ => x21) (sSeq (sReg 3 (S35r4 call)) (sRet)) (sSkip)))) (sSeq (sReg 1 (S35r5 call)) (sSeq (sSeq (sReg 3 (S35r6 call)) (sBlock 0 (sLoop fuel (S35b19 call fuel)))) (sSeq (sReg 2 (S35r20 call)) (sSeq (sSeq (sReg 4 (S35r21 call)) (sCond (@W35.rec (fun _ => AV) fun _ _ _ _ _ _ _ _ _ _ _ _ _ _ _ _ _ _ _ x59 => x59) (sSeq (sReg 2 (S35r22 call)) (sRet)) (sSkip))) (sSeq (sReg 3 (S35r23 call)) (sRet))))))))
noncomputable def S35e : Ex → W35 → AS → Option (AV × AS) := fun e w s => (@W35.rec (fun _ => Option (AV × AS)) fun _ x2 x3 _ _ _ _ _ _ _ _ _ _ _ _ _ _ _ _ _ => @Ex.rec (fun _ => Option (AV × AS)) (some (.tup [x2, x3], s)) (fun _ => none) (some (.tup [x2, x3], s)) e) w
noncomputable def S35 (call : Nat → List AV → M AV) (fuel : Nat) (args : List AV) (s : AS) : Option (AV × AS) := match args with
  | [x0] => S35c call fuel x0 s S35e
  | _ => none
theorem S35_sim (call : Nat → List AV → M AV) (fuel : Nat) : Sim (R := AV × AS) call fuel mi35 mo35 A35.code (S35c call fuel) := by
  refine sim_seq (sim_reg (fun x0 _ _ _ => by kernel_rfl)) (sim_seq (sim_reg (fun ⟨x0, x2, x3, x4, x5, x6, x8, x10, x11, x21, x23, x24, x25, x26, x30, x31, x32, x33, x42, x59⟩ _ _ _ => by kernel_rfl)) (sim_seq (sim_seq (sim_reg (fun ⟨x0, x2, x3, x4, x5, x6, x8, x10, x11, x21, x23, x24, x25, x26, x30, x31, x32, x33, x42, x59⟩ _ _ _ => by kernel_rfl)) (sim_seq (sim_reg (fun ⟨x0, x2, x3, x4, x5, x6, x8, x10, x11, x21, x23, x24, x25, x26, x30, x31, x32, x33, x42, x59⟩ _ _ _ => by kernel_rfl)) (sim_cond (fun ⟨x0, x2, x3, x4, x5, x6, x8, x10, x11, x21, x23, x24, x25, x26, x30, x31, x32, x33, x42, x59⟩ => by kernel_rfl) (sim_seq (sim_reg (fun ⟨x0, x2, x3, x4, x5, x6, x8, x10, x11, x21, x23, x24, x25, x26, x30, x31, x32, x33, x42, x59⟩ _ _ _ => by kernel_rfl)) (sim_ret)) (sim_skip)))) (sim_seq (sim_reg (fun ⟨x0, x2, x3, x4, x5, x6, x8, x10, x11, x21, x23, x24, x25, x26, x30, x31, x32, x33, x42, x59⟩ _ _ _ => by kernel_rfl)) (sim_seq (sim_seq (sim_reg (fun ⟨x0, x2, x3, x4, x5, x6, x8, x10, x11, x21, x23, x24, x25, x26, x30, x31, x32, x33, x42, x59⟩ _ _ _ => by kernel_rfl)) (sim_block (sim_loop (sim_seq (sim_reg (fun ⟨x0, x2, x3, x4, x5, x6, x8, x10, x11, x21, x23, x24, x25, x26, x30, x31, x32, x33, x42, x59⟩ _ _ _ => by kernel_rfl)) (sim_seq (sim_cond (fun ⟨x0, x2, x3, x4, x5, x6, x8, x10, x11, x21, x23, x24, x25, x26, x30, x31, x32, x33, x42, x59⟩ => by kernel_rfl) (sim_skip) (sim_exit)) (sim_seq (sim_block (sim_seq (sim_reg (fun ⟨x0, x2, x3, x4, x5, x6, x8, x10, x11, x21, x23, x24, x25, x26, x30, x31, x32, x33, x42, x59⟩ _ _ _ => by kernel_rfl)) (sim_seq (sim_reg (fun ⟨x0, x2, x3, x4, x5, x6, x8, x10, x11, x21, x23, x24, x25, x26, x30, x31, x32, x33, x42, x59⟩ _ _ _ => by kernel_rfl)) (sim_block (sim_loop (sim_seq (sim_reg (fun ⟨x0, x2, x3, x4, x5, x6, x8, x10, x11, x21, x23, x24, x25, x26, x30, x31, x32, x33, x42, x59⟩ _ _ _ => by kernel_rfl)) (sim_seq (sim_cond (fun ⟨x0, x2, x3, x4, x5, x6, x8, x10, x11, x21, x23, x24, x25, x26, x30, x31, x32, x33, x42, x59⟩ => by kernel_rfl) (sim_skip) (sim_exit)) (sim_seq (sim_block (sim_seq (sim_reg (fun ⟨x0, x2, x3, x4, x5, x6, x8, x10, x11, x21, x23, x24, x25, x26, x30, x31, x32, x33, x42, x59⟩ _ _ _ => by kernel_rfl)) (sim_seq (sim_seq (sim_reg (fun ⟨x0, x2, x3, x4, x5, x6, x8, x10, x11, x21, x23, x24, x25, x26, x30, x31, x32, x33, x42, x59⟩ _ _ _ => by kernel_rfl)) (sim_seq (sim_reg (fun ⟨x0, x2, x3, x4, x5, x6, x8, x10, x11, x21, x23, x24, x25, x26, x30, x31, x32, x33, x42, x59⟩ _ _ _ => by kernel_rfl)) (sim_cond (fun ⟨x0, x2, x3, x4, x5, x6, x8, x10, x11, x21, x23, x24, x25, x26, x30, x31, x32, x33, x42, x59⟩ => by kernel_rfl) (sim_seq (sim_reg (fun ⟨x0, x2, x3, x4, x5, x6, x8, x10, x11, x21, x23, x24, x25, x26, x30, x31, x32, x33, x42, x59⟩ _ _ _ => by kernel_rfl)) (sim_ret)) (sim_skip)))) (sim_reg (fun ⟨x0, x2, x3, x4, x5, x6, x8, x10, x11, x21, x23, x24, x25, x26, x30, x31, x32, x33, x42, x59⟩ _ _ _ => by kernel_rfl))))) (sim_reg (fun ⟨x0, x2, x3, x4, x5, x6, x8, x10, x11, x21, x23, x24, x25, x26, x30, x31, x32, x33, x42, x59⟩ _ _ _ => by kernel_rfl)))))))))) (sim_reg (fun ⟨x0, x2, x3, x4, x5, x6, x8, x10, x11, x21, x23, x24, x25, x26, x30, x31, x32, x33, x42, x59⟩ _ _ _ => by kernel_rfl)))))))) (sim_seq (sim_reg (fun ⟨x0, x2, x3, x4, x5, x6, x8, x10, x11, x21, x23, x24, x25, x26, x30, x31, x32, x33, x42, x59⟩ _ _ _ => by kernel_rfl)) (sim_seq (sim_seq (sim_reg (fun ⟨x0, x2, x3, x4, x5, x6, x8, x10, x11, x21, x23, x24, x25, x26, x30, x31, x32, x33, x42, x59⟩ _ _ _ => by kernel_rfl)) (sim_cond (fun ⟨x0, x2, x3, x4, x5, x6, x8, x10, x11, x21, x23, x24, x25, x26, x30, x31, x32, x33, x42, x59⟩ => by kernel_rfl) (sim_seq (sim_reg (fun ⟨x0, x2, x3, x4, x5, x6, x8, x10, x11, x21, x23, x24, x25, x26, x30, x31, x32, x33, x42, x59⟩ _ _ _ => by kernel_rfl)) (sim_ret)) (sim_skip))) (sim_seq (sim_reg (fun ⟨x0, x2, x3, x4, x5, x6, x8, x10, x11, x21, x23, x24, x25, x26, x30, x31, x32, x33, x42, x59⟩ _ _ _ => by kernel_rfl)) (sim_ret))))))))
theorem S35_ok (call : Nat → List AV → M AV) (fuel : Nat) (args : List AV) (s : AS) : afn call fuel A35 args s = S35 call fuel args s := by
  rcases args with _ | ⟨x0, _ | ⟨x1, r⟩⟩
  · kernel_rfl
  · exact (afn_sim (S35_sim call fuel) (v := x0) (e2 := S35e) (by kernel_rfl) (by kernel_rfl) (fun e w s => by cases w; cases e <;> kernel_rfl)).trans (by kernel_rfl)
  · kernel_rfl
def A36 : AFn := { nargs := 3, ntmps := 23, res := [.cell 6 true 3, .tmp 7], code := .seq (.ops [⟨0, (some 6), none, .l (.alloc [.str [], .nils, .nils]), []⟩, ⟨1, (some 7), none, .p (.mv (.const (.bool false))), []⟩] 2 [0, 1, 2, 6]) (.seq (.ops [⟨0, (some 11), none, .p (.mv (.tmp 0)), []⟩, ⟨1, (some 12), none, .p (.nilchk (.tmp 11)), []⟩, ⟨2, (some 13), none, .p (.fld 1 (.tmp 12)), []⟩, ⟨3, (some 14), none, .r (.load false 1 (.tmp 13)), []⟩, ⟨4, (some 15), none, .p (.mv (.tmp 1)), []⟩, ⟨5, (some 16), none, .p (.mv (.tmp 2)), []⟩, ⟨6, (some 17), none, .p (.build [.str [], .str []] [(0, 1, .tmp 15), (1, 1, .tmp 16)]), []⟩, ⟨7, (some 18), none, .r (.lookup (.agg [.str [], .nils, .nils]) true [true, true] (.tmp 14) (.tmp 17)), []⟩, ⟨8, (some 10), none, .p (.mv (.tmp 18)), []⟩, ⟨9, (some 19), none, .p (.extract (.tmp 10) 0), []⟩, ⟨10, (some 20), none, .p (.extract (.tmp 10) 1), []⟩, ⟨11, (some 8), none, .l (.alloc [.str [], .nils, .nils]), []⟩, ⟨12, none, none, .e (.store (.tmp 8) (.tmp 19) 3), []⟩, ⟨13, (some 9), none, .p (.mv (.tmp 20)), []⟩] 14 [6, 8, 9]) (.seq (.ops [⟨0, (some 21), none, .r (.load true 3 (.tmp 8)), []⟩, ⟨1, (some 22), none, .p (.mv (.tmp 9)), []⟩, ⟨2, none, none, .e (.store (.tmp 6) (.tmp 21) 3), []⟩, ⟨3, (some 7), none, .p (.mv (.tmp 22)), []⟩] 4 [6, 7]) (.ret))) }
def N36 : Notes := { note := fun _ => none, keep := fun | 2 => [6, 7] | 1 => [6, 8, 9] | 0 => [0, 1, 2, 6] | _ => [] }
theorem A36_ok : cFn Try.prog qf N36 Try.f36 = some A36 := by kernel_rfl
inductive W36 where
  | mk (x0 x1 x2 x6 x7 x8 x9 : AV)
inductive V36 where
  | mk (x0 x1 x2 : AV)
def mo36 : W36 → Fr := fun ⟨x0, x1, x2, x6, x7, x8, x9⟩ => [x0, x1, x2, .top, .top, .top, x6, x7, x8, x9, .top, .top, .top, .top, .top, .top, .top, .top, .top, .top, .top, .top, .top]
def mi36 : V36 → Fr := fun ⟨x0, x1, x2⟩ => [x0, x1, x2, .tup [], .tup [], .tup [], .tup [], .tup [], .tup [], .tup [], .tup [], .tup [], .tup [], .tup [], .tup [], .tup [], .tup [], .tup [], .tup [], .tup [], .tup [], .tup [], .tup []]
noncomputable def S36r0 {R : Type} (call : Nat → List AV → M AV) : V36 → Nat → AS → (W36 → AS → Option R) → Option R := @V36.rec (fun _ => Nat → AS → (W36 → AS → Option R) → Option R) fun x0 x1 x2 base s k =>
  bndO (newQ (base + 0) (allocB [(.str []), .nils, .nils] (base + 0)) s) fun y0 s =>
  k (.mk x0 x1 x2 y0 .top .top .top) s
noncomputable def S36r1 {R : Type} (call : Nat → List AV → M AV) : W36 → Nat → AS → (W36 → AS → Option R) → Option R := @W36.rec (fun _ => Nat → AS → (W36 → AS → Option R) → Option R) fun x0 x1 x2 x6 x7 x8 x9 base s k =>
  bndP (nilchkA x0) fun y0 =>
  bndP (fldA 1 y0) fun y1 =>
  bndP (loadQ false 1 y1 s.h) fun y2 =>
  bndP (buildA [(.str []), (.str [])] [(0, 1, x1), (1, 1, x2)]) fun y3 =>
  bndP (lookupA (.agg [(.str []), .nils, .nils]) true [true, true] y2 y3 s.h) fun y4 =>
  bndP (extrQ y4 0) fun y5 =>
  bndP (extrQ y4 1) fun y6 =>
  bndO (newQ (base + 11) (allocB [(.str []), .nils, .nils] (base + 11)) s) fun y7 s =>
  bndO (storeQ y7 y5 3 s) fun _ s =>
  k (.mk .top .top .top x6 .top y7 y6) s
noncomputable def S36r2 {R : Type} (call : Nat → List AV → M AV) : W36 → Nat → AS → (W36 → AS → Option R) → Option R := @W36.rec (fun _ => Nat → AS → (W36 → AS → Option R) → Option R) fun x0 x1 x2 x6 x7 x8 x9 base s k =>
  bndP (loadQ true 3 x8 s.h) fun y0 =>
  bndO (storeQ x6 y0 3 s) fun _ s =>
  k (.mk .top .top .top x6 x9 .top .top) s
noncomputable def S36c {R : Type} (call : Nat → List AV → M AV) (fuel : Nat) : SC V36 W36 R := sSeq (sReg 2 (S36r0 call)) (sSeq (sReg 14 (S36r1 call)) (sSeq (sReg 4 (S36r2 call)) (sRet)))
noncomputable def S36e : Ex → W36 → AS → Option (AV × AS) := fun e w s => (@W36.rec (fun _ => Option (AV × AS)) fun _ _ _ x6 x7 _ _ => @Ex.rec (fun _ => Option (AV × AS)) (match resS [fun h => loadA true 3 x6 h, fun _ => some x7] s.h with | some vs => some (shut vs, s) | none => none) (fun _ => none) (match resS [fun h => loadA true 3 x6 h, fun _ => some x7] s.h with | some vs => some (shut vs, s) | none => none) e) w
noncomputable def S36 (call : Nat → List AV → M AV) (fuel : Nat) (args : List AV) (s : AS) : Option (AV × AS) := match args with
  | [x0, x1, x2] => S36c call fuel (.mk x0 x1 x2) s S36e
  | _ => none
theorem S36_sim (call : Nat → List AV → M AV) (fuel : Nat) : Sim (R := AV × AS) call fuel mi36 mo36 A36.code (S36c call fuel) := by
  refine sim_seq (sim_reg (fun ⟨x0, x1, x2⟩ _ _ _ => by kernel_rfl)) (sim_seq (sim_reg (fun ⟨x0, x1, x2, x6, x7, x8, x9⟩ _ _ _ => by kernel_rfl)) (sim_seq (sim_reg (fun ⟨x0, x1, x2, x6, x7, x8, x9⟩ _ _ _ => by kernel_rfl)) (sim_ret)))
theorem S36_ok (call : Nat → List AV → M AV) (fuel : Nat) (args : List AV) (s : AS) : afn call fuel A36 args s = S36 call fuel args s := by
  rcases args with _ | ⟨x0, _ | ⟨x1, _ | ⟨x2, _ | ⟨x3, r⟩⟩⟩⟩
  · kernel_rfl
  · kernel_rfl
  · kernel_rfl
  · exact (afn_sim (S36_sim call fuel) (v := (.mk x0 x1 x2)) (e2 := S36e) (by kernel_rfl) (by kernel_rfl) (fun e w s => by cases w; cases e <;> kernel_rfl)).trans (by kernel_rfl)
  · kernel_rfl
def A37 : AFn := { nargs := 3, ntmps := 15, res := [.tmp 6], code := .seq (.ops [⟨0, (some 6), none, .p (.mv (.const (.int .i64 0))), []⟩] 1 [0, 1, 2]) (.seq (.ops [⟨0, (some 7), none, .p (.mv (.tmp 0)), []⟩, ⟨1, (some 8), none, .p (.nilchk (.tmp 7)), []⟩, ⟨2, (some 9), none, .p (.fld 2 (.tmp 8)), []⟩, ⟨3, (some 10), none, .r (.load false 1 (.tmp 9)), []⟩, ⟨4, (some 11), none, .p (.mv (.tmp 1)), []⟩, ⟨5, (some 12), none, .p (.mv (.tmp 2)), []⟩, ⟨6, (some 13), none, .p (.build [.str [], .str []] [(0, 1, .tmp 11), (1, 1, .tmp 12)]), []⟩, ⟨7, (some 14), none, .r (.lookup (.int .i64 0) false [true, true] (.tmp 10) (.tmp 13)), []⟩, ⟨8, (some 6), none, .p (.mv (.tmp 14)), []⟩] 9 [6]) (.ret)) }
def N37 : Notes := { note := fun _ => none, keep := fun | 1 => [6] | 0 => [0, 1, 2] | _ => [] }
theorem A37_ok : cFn Try.prog qf N37 Try.f37 = some A37 := by kernel_rfl
inductive W37 where
  | mk (x0 x1 x2 x6 : AV)
inductive V37 where
  | mk (x0 x1 x2 : AV)
def mo37 : W37 → Fr := fun ⟨x0, x1, x2, x6⟩ => [x0, x1, x2, .top, .top, .top, x6, .top, .top, .top, .top, .top, .top, .top, .top]
def mi37 : V37 → Fr := fun ⟨x0, x1, x2⟩ => [x0, x1, x2, .tup [], .tup [], .tup [], .tup [], .tup [], .tup [], .tup [], .tup [], .tup [], .tup [], .tup [], .tup []]
noncomputable def S37r0 {R : Type} (call : Nat → List AV → M AV) : V37 → Nat → AS → (W37 → AS → Option R) → Option R := @V37.rec (fun _ => Nat → AS → (W37 → AS → Option R) → Option R) fun x0 x1 x2 base s k =>
  k (.mk x0 x1 x2 .top) s
noncomputable def S37r1 {R : Type} (call : Nat → List AV → M AV) : W37 → Nat → AS → (W37 → AS → Option R) → Option R := @W37.rec (fun _ => Nat → AS → (W37 → AS → Option R) → Option R) fun x0 x1 x2 x6 base s k =>
  bndP (nilchkA x0) fun y0 =>
  bndP (fldA 2 y0) fun y1 =>
  bndP (loadQ false 1 y1 s.h) fun y2 =>
  bndP (buildA [(.str []), (.str [])] [(0, 1, x1), (1, 1, x2)]) fun y3 =>
  bndP (lookupA (.int .i64 0) false [true, true] y2 y3 s.h) fun y4 =>
  k (.mk .top .top .top y4) s
noncomputable def S37c {R : Type} (call : Nat → List AV → M AV) (fuel : Nat) : SC V37 W37 R := sSeq (sReg 1 (S37r0 call)) (sSeq (sReg 9 (S37r1 call)) (sRet))
noncomputable def S37e : Ex → W37 → AS → Option (AV × AS) := fun e w s => (@W37.rec (fun _ => Option (AV × AS)) fun _ _ _ x6 => @Ex.rec (fun _ => Option (AV × AS)) (some (x6, s)) (fun _ => none) (some (x6, s)) e) w
noncomputable def S37 (call : Nat → List AV → M AV) (fuel : Nat) (args : List AV) (s : AS) : Option (AV × AS) := match args with
  | [x0, x1, x2] => S37c call fuel (.mk x0 x1 x2) s S37e
  | _ => none
theorem S37_sim (call : Nat → List AV → M AV) (fuel : Nat) : Sim (R := AV × AS) call fuel mi37 mo37 A37.code (S37c call fuel) := by
  refine sim_seq (sim_reg (fun ⟨x0, x1, x2⟩ _ _ _ => by kernel_rfl)) (sim_seq (sim_reg (fun ⟨x0, x1, x2, x6⟩ _ _ _ => by kernel_rfl)) (sim_ret))
theorem S37_ok (call : Nat → List AV → M AV) (fuel : Nat) (args : List AV) (s : AS) : afn call fuel A37 args s = S37 call fuel args s := by
  rcases args with _ | ⟨x0, _ | ⟨x1, _ | ⟨x2, _ | ⟨x3, r⟩⟩⟩⟩
  · kernel_rfl
  · kernel_rfl
  · kernel_rfl
  · exact (afn_sim (S37_sim call fuel) (v := (.mk x0 x1 x2)) (e2 := S37e) (by kernel_rfl) (by kernel_rfl) (fun e w s => by cases w; cases e <;> kernel_rfl)).trans (by kernel_rfl)
  · kernel_rfl
def A39 : AFn := { nargs := 1, ntmps := 148, res := [.tmp 2, .tmp 3, .tmp 4], code := .seq (.ops [⟨0, (some 2), none, .p (.mv (.const (.nils))), []⟩, ⟨1, (some 3), none, .p (.mv (.const (.int .i64 0))), []⟩, ⟨2, (some 4), none, .p (.mv (.const (.int .i64 0))), []⟩] 3 [0]) (.seq (.ops [⟨0, (some 12), none, .p (.mv (.tmp 0)), []⟩, ⟨1, (some 13), none, .e (.call true 70 [.tmp 12]), []⟩, ⟨2, (some 11), none, .p (.mv (.tmp 13)), []⟩, ⟨3, (some 14), none, .p (.extract (.tmp 11) 0), []⟩, ⟨4, (some 15), none, .p (.extract (.tmp 11) 1), []⟩, ⟨5, (some 16), none, .p (.extract (.tmp 11) 2), []⟩, ⟨6, (some 5), none, .p (.mv (.tmp 14)), []⟩, ⟨7, (some 6), none, .p (.mv (.tmp 15)), []⟩, ⟨8, (some 7), none, .p (.mv (.tmp 16)), []⟩] 9 [0, 5, 6, 7]) (.seq (.seq (.ops [⟨0, (some 17), none, .p (.mv (.tmp 7)), []⟩, ⟨1, (some 18), none, .p (.bin .neq (.tmp 17) (.const (.int .i64 0))), []⟩] 2 [0, 5, 6, 7, 18]) (.cond (.tmp 18) (.seq (.ops [⟨0, (some 19), none, .p (.mv (.tmp 6)), []⟩, ⟨1, (some 20), none, .p (.mv (.tmp 7)), []⟩, ⟨2, (some 2), none, .p (.mv (.const (.nils))), []⟩, ⟨3, (some 3), none, .p (.mv (.tmp 19)), []⟩, ⟨4, (some 4), none, .p (.mv (.tmp 20)), []⟩] 5 [2, 3, 4]) (.ret)) (.skip))) (.seq (.ops [⟨0, (some 21), none, .p (.mv (.tmp 5)), []⟩, ⟨1, (some 22), none, .p (.mv (.tmp 0)), []⟩, ⟨2, (some 23), none, .p (.lenS true (.tmp 22)), []⟩, ⟨3, (some 24), none, .p (.build [.nils, .int .i64 0, .int .i64 0, .int .i64 0, .int .i64 0, .int .i64 0, .nils, .int .i64 0] [(0, 1, .tmp 21), (2, 1, .tmp 23)]), []⟩, ⟨4, (some 25), none, .l (.box (.tmp 24)), []⟩, ⟨5, (some 8), none, .p (.mv (.tmp 25)), []⟩] 6 [5, 8]) (.seq (.ops [⟨0, (some 9), none, .p (.mv (.const (.nils))), []⟩] 1 [5, 8, 9]) (.seq (.block 0 (.loop (.seq (.seq (.ops [⟨0, (some 26), none, .p (.mv (.tmp 8)), []⟩, ⟨1, (some 27), none, .p (.nilchk (.tmp 26)), []⟩, ⟨2, (some 28), none, .p (.fld 3 (.tmp 27)), []⟩, ⟨3, (some 29), none, .r (.load false 1 (.tmp 28)), []⟩, ⟨4, (some 30), none, .p (.bin .eql (.tmp 29) (.const (.int .i64 0))), []⟩, ⟨5, (some 31), none, .p (.mv (.tmp 30)), []⟩, ⟨6, (some 32), (some (31, true)), .p (.mv (.tmp 8)), []⟩, ⟨7, (some 33), (some (31, true)), .p (.nilchk (.tmp 32)), []⟩, ⟨8, (some 34), (some (31, true)), .p (.fld 1 (.tmp 33)), []⟩, ⟨9, (some 35), (some (31, true)), .r (.load false 1 (.tmp 34)), []⟩, ⟨10, (some 36), (some (31, true)), .p (.mv (.tmp 5)), []⟩, ⟨11, (some 37), (some (31, true)), .p (.lenS false (.tmp 36)), []⟩, ⟨12, (some 38), (some (31, true)), .p (.bin .lss (.tmp 35) (.tmp 37)), []⟩, ⟨13, (some 39), none, .p (.pick (.tmp 31) (.tmp 38) (.const (.bool false))), []⟩] 14 [5, 8, 9, 39]) (.cond (.tmp 39) (.skip) (.exit 0))) (.block 1 (.seq (.seq (.ops [⟨0, (some 40), none, .p (.mv (.tmp 9)), []⟩, ⟨1, (some 41), none, .p (.lenS false (.tmp 40)), []⟩, ⟨2, (some 42), none, .p (.bin .eql (.tmp 41) (.const (.int .i64 200))), []⟩] 3 [5, 8, 9, 42]) (.cond (.tmp 42) (.ops [⟨0, (some 43), none, .p (.mv (.tmp 8)), []⟩, ⟨1, (some 44), none, .e (.call false 71 [.tmp 43, .const (.int .i64 8)]), []⟩] 2 [5, 8, 9]) (.skip))) (.seq (.seq (.ops [⟨0, (some 45), none, .p (.mv (.tmp 8)), []⟩, ⟨1, (some 46), none, .p (.nilchk (.tmp 45)), []⟩, ⟨2, (some 47), none, .p (.fld 3 (.tmp 46)), []⟩, ⟨3, (some 48), none, .r (.load false 1 (.tmp 47)), []⟩, ⟨4, (some 49), none, .p (.bin .eql (.tmp 48) (.const (.int .i64 0))), []⟩, ⟨5, (some 50), none, .p (.mv (.tmp 49)), []⟩, ⟨6, (some 51), (some (50, true)), .p (.mv (.tmp 5)), []⟩, ⟨7, (some 52), (some (50, true)), .p (.mv (.tmp 8)), []⟩, ⟨8, (some 53), (some (50, true)), .p (.nilchk (.tmp 52)), []⟩, ⟨9, (some 54), (some (50, true)), .p (.fld 1 (.tmp 53)), []⟩, ⟨10, (some 55), (some (50, true)), .r (.load false 1 (.tmp 54)), []⟩, ⟨11, (some 56), (some (50, true)), .p (.idx 3 (.tmp 51) (.tmp 55)), []⟩, ⟨12, (some 57), (some (50, true)), .p (.fld 0 (.tmp 56)), []⟩, ⟨13, (some 58), (some (50, true)), .r (.load false 1 (.tmp 57)), []⟩, ⟨14, (some 59), (some (50, true)), .p (.bin .neq (.tmp 58) (.const (.int .i64 1))), []⟩, ⟨15, (some 60), (some (50, true)), .p (.mv (.tmp 59)), []⟩, ⟨16, (some 61), (some (60, false)), .p (.mv (.tmp 5)), []⟩, ⟨17, (some 62), (some (60, false)), .p (.mv (.tmp 8)), []⟩, ⟨18, (some 63), (some (60, false)), .p (.nilchk (.tmp 62)), []⟩, ⟨19, (some 64), (some (60, false)), .p (.fld 1 (.tmp 63)), []⟩, ⟨20, (some 65), (some (60, false)), .r (.load false 1 (.tmp 64)), []⟩, ⟨21, (some 66), (some (60, false)), .p (.idx 3 (.tmp 61) (.tmp 65)), []⟩, ⟨22, (some 67), (some (60, false)), .p (.fld 2 (.tmp 66)), []⟩, ⟨23, (some 68), (some (60, false)), .r (.load false 1 (.tmp 67)), []⟩, ⟨24, (some 69), (some (60, false)), .p (.bin .neq (.tmp 68) (.const (.str [116, 121, 112, 101]))), []⟩, ⟨25, (some 70), (some (50, true)), .p (.pick (.tmp 60) (.const (.bool true)) (.tmp 69)), []⟩, ⟨26, (some 71), none, .p (.pick (.tmp 50) (.tmp 70) (.const (.bool false))), []⟩] 27 [5, 8, 9, 71]) (.cond (.tmp 71) (.ops [⟨0, (some 72), none, .p (.mv (.tmp 8)), []⟩, ⟨1, (some 73), none, .e (.call false 71 [.tmp 72, .const (.int .i64 9)]), []⟩] 2 [5, 8, 9]) (.skip))) (.seq (.ops [⟨0, (some 74), none, .p (.mv (.tmp 8)), []⟩, ⟨1, (some 75), none, .p (.nilchk (.tmp 74)), []⟩, ⟨2, (some 76), none, .p (.fld 1 (.tmp 75)), []⟩, ⟨3, (some 77), none, .r (.load false 1 (.tmp 76)), []⟩, ⟨4, (some 78), none, .p (.bin .add (.tmp 77) (.const (.int .i64 1))), []⟩, ⟨5, (some 79), none, .p (.nilchk (.tmp 74)), []⟩, ⟨6, (some 80), none, .p (.fld 1 (.tmp 79)), []⟩, ⟨7, none, none, .e (.store (.tmp 80) (.tmp 78) 1), []⟩] 8 [5, 8, 9]) (.seq (.ops [⟨0, (some 81), none, .p (.mv (.tmp 8)), []⟩, ⟨1, (some 82), none, .e (.call false 72 [.tmp 81]), []⟩, ⟨2, (some 83), none, .p (.build [.str [], .nils] [(0, 1, .tmp 82)]), []⟩, ⟨3, (some 10), none, .l (.alloc [.str [], .nils]), []⟩, ⟨4, none, none, .e (.store (.tmp 10) (.tmp 83) 2), []⟩] 5 [5, 8, 9, 10]) (.seq (.seq (.ops [⟨0, (some 84), none, .p (.mv (.tmp 8)), []⟩, ⟨1, (some 85), none, .p (.nilchk (.tmp 84)), []⟩, ⟨2, (some 86), none, .p (.fld 3 (.tmp 85)), []⟩, ⟨3, (some 87), none, .r (.load false 1 (.tmp 86)), []⟩, ⟨4, (some 88), none, .p (.bin .eql (.tmp 87) (.const (.int .i64 0))), []⟩, ⟨5, (some 89), none, .p (.mv (.tmp 88)), []⟩, ⟨6, (some 90), (some (89, true)), .p (.mv (.tmp 8)), []⟩, ⟨7, (some 91), (some (89, true)), .e (.call true 73 [.tmp 90, .const (.str [123])]), []⟩, ⟨8, (some 92), none, .p (.pick (.tmp 89) (.tmp 91) (.const (.bool false))), []⟩] 9 [5, 8, 9, 10, 92]) (.cond (.tmp 92) (.seq (.ops [⟨0, (some 93), none, .p (.mv (.tmp 8)), []⟩, ⟨1, (some 94), none, .p (.nilchk (.tmp 93)), []⟩, ⟨2, (some 95), none, .p (.fld 1 (.tmp 94)), []⟩, ⟨3, (some 96), none, .r (.load false 1 (.tmp 95)), []⟩, ⟨4, (some 97), none, .p (.bin .add (.tmp 96) (.const (.int .i64 1))), []⟩, ⟨5, (some 98), none, .p (.nilchk (.tmp 93)), []⟩, ⟨6, (some 99), none, .p (.fld 1 (.tmp 98)), []⟩, ⟨7, none, none, .e (.store (.tmp 99) (.tmp 97) 1), []⟩] 8 [5, 8, 9, 10]) (.seq (.block 2 (.loop (.seq (.seq (.ops [⟨0, (some 100), none, .p (.mv (.tmp 8)), []⟩, ⟨1, (some 101), none, .p (.nilchk (.tmp 100)), []⟩, ⟨2, (some 102), none, .p (.fld 3 (.tmp 101)), []⟩, ⟨3, (some 103), none, .r (.load false 1 (.tmp 102)), []⟩, ⟨4, (some 104), none, .p (.bin .eql (.tmp 103) (.const (.int .i64 0))), []⟩, ⟨5, (some 105), none, .p (.mv (.tmp 104)), []⟩, ⟨6, (some 106), (some (105, true)), .p (.mv (.tmp 8)), []⟩, ⟨7, (some 107), (some (105, true)), .e (.call true 73 [.tmp 106, .const (.str [125])]), []⟩, ⟨8, (some 108), (some (105, true)), .p (.notb (.tmp 107)), []⟩, ⟨9, (some 109), none, .p (.pick (.tmp 105) (.tmp 108) (.const (.bool false))), []⟩] 10 [5, 8, 9, 10, 109]) (.cond (.tmp 109) (.skip) (.exit 2))) (.block 3 (.seq (.seq (.ops [⟨0, (some 110), none, .p (.fld 1 (.tmp 10)), []⟩, ⟨1, (some 111), none, .r (.load false 1 (.tmp 110)), []⟩, ⟨2, (some 112), none, .p (.lenS false (.tmp 111)), []⟩, ⟨3, (some 113), none, .p (.bin .eql (.tmp 112) (.const (.int .i64 200))), []⟩] 4 [5, 8, 9, 10, 113]) (.cond (.tmp 113) (.ops [⟨0, (some 114), none, .p (.mv (.tmp 8)), []⟩, ⟨1, (some 115), none, .e (.call false 71 [.tmp 114, .const (.int .i64 8)]), []⟩] 2 [5, 8, 9, 10]) (.skip))) (.seq (.ops [⟨0, (some 116), none, .p (.mv (.tmp 8)), []⟩, ⟨1, (some 117), none, .p (.nilchk (.tmp 116)), []⟩, ⟨2, (some 118), none, .p (.fld 3 (.tmp 117)), []⟩, ⟨3, (some 119), none, .r (.load false 1 (.tmp 118)), []⟩, ⟨4, (some 120), none, .p (.bin .eql (.tmp 119) (.const (.int .i64 0))), []⟩] 5 [5, 8, 9, 10, 120]) (.cond (.tmp 120) (.ops [⟨0, (some 121), none, .p (.fld 1 (.tmp 10)), []⟩, ⟨2, (some 123), none, .p (.mv (.tmp 8)), []⟩, ⟨1, (some 122), none, .r (.load false 1 (.tmp 121)), []⟩, ⟨3, (some 124), none, .e (.call false 74 [.tmp 123]), [(none, (.load false 1 (.tmp 121)))]⟩, ⟨4, (some 125), none, .k { z := [.str [], .nils, .nils], len := 1, parts := [(0, .tmp 124)] }, []⟩, ⟨5, (some 126), none, .e (.append 3 64 (.tmp 122) (.tmp 125)), []⟩, ⟨6, (some 127), none, .p (.fld 1 (.tmp 10)), []⟩, ⟨7, none, none, .e (.store (.tmp 127) (.tmp 126) 1), []⟩] 8 [5, 8, 9, 10]) (.skip)))))))) (.ops [⟨0, (some 128), none, .p (.mv (.tmp 8)), []⟩, ⟨1, (some 129), none, .e (.call false 75 [.tmp 128, .const (.str [125])]), []⟩] 2 [5, 8, 9, 10]))) (.skip))) (.ops [⟨0, (some 130), none, .p (.mv (.tmp 9)), []⟩, ⟨1, (some 131), none, .r (.load true 2 (.tmp 10)), []⟩, ⟨2, (some 132), none, .k { z := [.str [], .nils], len := 1, parts := [(0, .tmp 131)] }, []⟩, ⟨3, (some 133), none, .e (.append 2 40 (.tmp 130) (.tmp 132)), []⟩, ⟨4, (some 9), none, .p (.mv (.tmp 133)), []⟩] 5 [5, 8, 9])))))))))) (.seq (.seq (.ops [⟨0, (some 134), none, .p (.mv (.tmp 8)), []⟩, ⟨1, (some 135), none, .p (.nilchk (.tmp 134)), []⟩, ⟨2, (some 136), none, .p (.fld 3 (.tmp 135)), []⟩, ⟨3, (some 137), none, .r (.load false 1 (.tmp 136)), []⟩, ⟨4, (some 138), none, .p (.bin .neq (.tmp 137) (.const (.int .i64 0))), []⟩] 5 [8, 9, 138]) (.cond (.tmp 138) (.seq (.ops [⟨0, (some 139), none, .p (.mv (.tmp 8)), []⟩, ⟨1, (some 140), none, .p (.nilchk (.tmp 139)), []⟩, ⟨2, (some 141), none, .p (.fld 4 (.tmp 140)), []⟩, ⟨4, (some 143), none, .p (.mv (.tmp 8)), []⟩, ⟨5, (some 144), none, .p (.nilchk (.tmp 143)), []⟩, ⟨6, (some 145), none, .p (.fld 3 (.tmp 144)), []⟩, ⟨8, (some 2), none, .p (.mv (.const (.nils))), []⟩, ⟨3, (some 142), none, .r (.load false 1 (.tmp 141)), []⟩, ⟨9, (some 3), none, .p (.mv (.tmp 142)), []⟩, ⟨7, (some 146), none, .r (.load false 1 (.tmp 145)), []⟩, ⟨10, (some 4), none, .p (.mv (.tmp 146)), []⟩] 11 [2, 3, 4]) (.ret)) (.skip))) (.seq (.ops [⟨0, (some 147), none, .p (.mv (.tmp 9)), []⟩, ⟨1, (some 2), none, .p (.mv (.tmp 147)), []⟩, ⟨2, (some 3), none, .p (.mv (.const (.int .i64 0))), []⟩, ⟨3, (some 4), none, .p (.mv (.const (.int .i64 0))), []⟩] 4 [2, 3, 4]) (.ret)))))))) }
def N39 : Notes := { note := fun | 19 => some ⟨[0, 2, 1, 3, 4, 5, 6, 7], [0, 1, 0, 4, 12, 31, 63, 127], [[], [], [], [1], [], [], [], []]⟩ | 23 => some ⟨[0, 1, 2, 4, 5, 6, 8, 3, 9, 7, 10], [0, 1, 3, 7, 0, 16, 48, 112, 0, 271, 1023], [[], [], [], [], [], [], [], [], [], [], []]⟩ | _ => none, keep := fun | 24 => [2, 3, 4] | 23 => [2, 3, 4] | 22 => [8, 9, 138] | 21 => [5, 8, 9] | 20 => [5, 8, 9, 10] | 19 => [5, 8, 9, 10] | 18 => [5, 8, 9, 10, 120] | 17 => [5, 8, 9, 10] | 16 => [5, 8, 9, 10, 113] | 15 => [5, 8, 9, 10, 109] | 14 => [5, 8, 9, 10] | 13 => [5, 8, 9, 10, 92] | 12 => [5, 8, 9, 10] | 11 => [5, 8, 9] | 10 => [5, 8, 9] | 9 => [5, 8, 9, 71] | 8 => [5, 8, 9] | 7 => [5, 8, 9, 42] | 6 => [5, 8, 9, 39] | 5 => [5, 8, 9] | 4 => [5, 8] | 3 => [2, 3, 4] | 2 => [0, 5, 6, 7, 18] | 1 => [0, 5, 6, 7] | 0 => [0] | _ => [] }
theorem A39_ok : cFn Try.prog qf N39 Try.f39 = some A39 := by kernel_rfl
inductive W39 where
  | mk (x0 x2 x3 x4 x5 x6 x7 x8 x9 x10 x18 x39 x42 x71 x92 x109 x113 x120 x138 : AV)
abbrev V39 := AV
def mo39 : W39 → Fr := fun ⟨x0, x2, x3, x4, x5, x6, x7, x8, x9, x10, x18, x39, x42, x71, x92, x109, x113, x120, x138⟩ => [x0, .top, x2, x3, x4, x5, x6, x7, x8, x9, x10, .top, .top, .top, .top, .top, .top, .top, x18, .top, .top, .top, .top, .top, .top, .top, .top, .top, .top, .top, .top, .top, .top, .top, .top, .top, .top, .top, .top, x39, .top, .top, x42, .top, .top, .top, .top, .top, .top, .top, .top, .top, .top, .top, .top, .top, .top, .top, .top, .top, .top, .top, .top, .top, .top, .top, .top, .top, .top, .top, .top, x71, .top, .top, .top, .top, .top, .top, .top, .top, .top, .top, .top, .top, .top, .top, .top, .top, .top, .top, .top, .top, x92, .top, .top, .top, .top, .top, .top, .top, .top, .top, .top, .top, .top, .top, .top, .top, .top, x109, .top, .top, .top, x113, .top, .top, .top, .top, .top, .top, x120, .top, .top, .top, .top, .top, .top, .top, .top, .top, .top, .top, .top, .top, .top, .top, .top, .top, x138, .top, .top, .top, .top, .top, .top, .top, .top, .top]
def mi39 : V39 → Fr := fun x0 => [x0, .tup [], .tup [], .tup [], .tup [], .tup [], .tup [], .tup [], .tup [], .tup [], .tup [], .tup [], .tup [], .tup [], .tup [], .tup [], .tup [], .tup [], .tup [], .tup [], .tup [], .tup [], .tup [], .tup [], .tup [], .tup [], .tup [], .tup [], .tup [], .tup [], .tup [], .tup [], .tup [], .tup [], .tup [], .tup [], .tup [], .tup [], .tup [], .tup [], .tup [], .tup [], .tup [], .tup [], .tup [], .tup [], .tup [], .tup [], .tup [], .tup [], .tup [], .tup [], .tup [], .tup [], .tup [], .tup [], .tup [], .tup [], .tup [], .tup [], .tup [], .tup [], .tup [], .tup [], .tup [], .tup [], .tup [], .tup [], .tup [], .tup [], .tup [], .tup [], .tup [], .tup [], .tup [], .tup [], .tup [], .tup [], .tup [], .tup [], .tup [], .tup [], .tup [], .tup [], .tup [], .tup [], .tup [], .tup [], .tup [], .tup [], .tup [], .tup [], .tup [], .tup [], .tup [], .tup [], .tup [], .tup [], .tup [], .tup [], .tup [], .tup [], .tup [], .tup [], .tup [], .tup [], .tup [], .tup [], .tup [], .tup [], .tup [], .tup [], .tup [], .tup [], .tup [], .tup [], .tup [], .tup [], .tup [], .tup [], .tup [], .tup [], .tup [], .tup [], .tup [], .tup [], .tup [], .tup [], .tup [], .tup [], .tup [], .tup [], .tup [], .tup [], .tup [], .tup [], .tup [], .tup [], .tup [], .tup [], .tup [], .tup [], .tup [], .tup [], .tup [], .tup [], .tup [], .tup []]
noncomputable def S39r0 {R : Type} (call : Nat → List AV → M AV) : V39 → Nat → AS → (W39 → AS → Option R) → Option R := fun x0 base s k =>
  k (.mk x0 .top .top .top .top .top .top .top .top .top .top .top .top .top .top .top .top .top .top) s
noncomputable def S39r1 {R : Type} (call : Nat → List AV → M AV) : W39 → Nat → AS → (W39 → AS → Option R) → Option R := @W39.rec (fun _ => Nat → AS → (W39 → AS → Option R) → Option R) fun x0 x2 x3 x4 x5 x6 x7 x8 x9 x10 x18 x39 x42 x71 x92 x109 x113 x120 x138 base s k =>
  bndO (quietQ call 70 [x0] s) fun y0 s =>
  bndP (extrQ y0 0) fun y1 =>
  bndP (extrQ y0 1) fun y2 =>
  bndP (extrQ y0 2) fun y3 =>
  k (.mk x0 .top .top .top y1 y2 y3 .top .top .top .top .top .top .top .top .top .top .top .top) s
noncomputable def S39r2 {R : Type} (call : Nat → List AV → M AV) : W39 → Nat → AS → (W39 → AS → Option R) → Option R := @W39.rec (fun _ => Nat → AS → (W39 → AS → Option R) → Option R) fun x0 x2 x3 x4 x5 x6 x7 x8 x9 x10 x18 x39 x42 x71 x92 x109 x113 x120 x138 base s k =>
  bndP (binQ .neq x7 ((.int .i64 0) : AV)) fun y0 =>
  k (.mk x0 .top .top .top x5 x6 x7 .top .top .top y0 .top .top .top .top .top .top .top .top) s
noncomputable def S39r3 {R : Type} (call : Nat → List AV → M AV) : W39 → Nat → AS → (W39 → AS → Option R) → Option R := @W39.rec (fun _ => Nat → AS → (W39 → AS → Option R) → Option R) fun x0 x2 x3 x4 x5 x6 x7 x8 x9 x10 x18 x39 x42 x71 x92 x109 x113 x120 x138 base s k =>
  k (.mk .top (.nils : AV) x6 x7 .top .top .top .top .top .top .top .top .top .top .top .top .top .top .top) s
noncomputable def S39r4 {R : Type} (call : Nat → List AV → M AV) : W39 → Nat → AS → (W39 → AS → Option R) → Option R := @W39.rec (fun _ => Nat → AS → (W39 → AS → Option R) → Option R) fun x0 x2 x3 x4 x5 x6 x7 x8 x9 x10 x18 x39 x42 x71 x92 x109 x113 x120 x138 base s k =>
  bndP (lenAQ true x0) fun y0 =>
  bndP (buildA [.nils, (.int .i64 0), (.int .i64 0), (.int .i64 0), (.int .i64 0), (.int .i64 0), .nils, (.int .i64 0)] [(0, 1, x5), (2, 1, y0)]) fun y1 =>
  bndO (newQ (base + 4) (boxB y1 (base + 4)) s) fun y2 s =>
  k (.mk .top .top .top .top x5 .top .top y2 .top .top .top .top .top .top .top .top .top .top .top) s
noncomputable def S39r5 {R : Type} (call : Nat → List AV → M AV) : W39 → Nat → AS → (W39 → AS → Option R) → Option R := @W39.rec (fun _ => Nat → AS → (W39 → AS → Option R) → Option R) fun x0 x2 x3 x4 x5 x6 x7 x8 x9 x10 x18 x39 x42 x71 x92 x109 x113 x120 x138 base s k =>
  k (.mk .top .top .top .top x5 .top .top x8 (.nils : AV) .top .top .top .top .top .top .top .top .top .top) s
noncomputable def S39r6 {R : Type} (call : Nat → List AV → M AV) : W39 → Nat → AS → (W39 → AS → Option R) → Option R := @W39.rec (fun _ => Nat → AS → (W39 → AS → Option R) → Option R) fun x0 x2 x3 x4 x5 x6 x7 x8 x9 x10 x18 x39 x42 x71 x92 x109 x113 x120 x138 base s k =>
  bndP (nilchkA x8) fun y0 =>
  bndP (fldA 3 y0) fun y1 =>
  bndP (loadQ false 1 y1 s.h) fun y2 =>
  bndP (binQ .eql y2 ((.int .i64 0) : AV)) fun y3 =>
  bndO (gd (wantG y3 true) (fun s => (pureO (some x8) s)) s) fun y4 s =>
  bndO (gd (wantG y3 true) (fun s => (pureO (nilchkA y4) s)) s) fun y5 s =>
  bndO (gd (wantG y3 true) (fun s => (pureO (fldA 1 y5) s)) s) fun y6 s =>
  bndO (gd (wantG y3 true) (fun s => (pureO (loadQ false 1 y6 s.h) s)) s) fun y7 s =>
  bndO (gd (wantG y3 true) (fun s => (pureO (some x5) s)) s) fun y8 s =>
  bndO (gd (wantG y3 true) (fun s => (pureO (lenAQ false y8) s)) s) fun y9 s =>
  bndO (gd (wantG y3 true) (fun s => (pureO (binQ .lss y7 y9) s)) s) fun y10 s =>
  bndP (pickA y3 y10 ((.bool false) : AV)) fun y11 =>
  k (.mk .top .top .top .top x5 .top .top x8 x9 .top .top y11 .top .top .top .top .top .top .top) s
noncomputable def S39r7 {R : Type} (call : Nat → List AV → M AV) : W39 → Nat → AS → (W39 → AS → Option R) → Option R := @W39.rec (fun _ => Nat → AS → (W39 → AS → Option R) → Option R) fun x0 x2 x3 x4 x5 x6 x7 x8 x9 x10 x18 x39 x42 x71 x92 x109 x113 x120 x138 base s k =>
  bndP (lenAQ false x9) fun y0 =>
  bndP (binQ .eql y0 ((.int .i64 200) : AV)) fun y1 =>
  k (.mk .top .top .top .top x5 .top .top x8 x9 .top .top .top y1 .top .top .top .top .top .top) s
noncomputable def S39r8 {R : Type} (call : Nat → List AV → M AV) : W39 → Nat → AS → (W39 → AS → Option R) → Option R := @W39.rec (fun _ => Nat → AS → (W39 → AS → Option R) → Option R) fun x0 x2 x3 x4 x5 x6 x7 x8 x9 x10 x18 x39 x42 x71 x92 x109 x113 x120 x138 base s k =>
  bndO (call 71 [x8, ((.int .i64 8) : AV)] s) fun y0 s =>
  k (.mk .top .top .top .top x5 .top .top x8 x9 .top .top .top .top .top .top .top .top .top .top) s
noncomputable def S39r9 {R : Type} (call : Nat → List AV → M AV) : W39 → Nat → AS → (W39 → AS → Option R) → Option R := @W39.rec (fun _ => Nat → AS → (W39 → AS → Option R) → Option R) fun x0 x2 x3 x4 x5 x6 x7 x8 x9 x10 x18 x39 x42 x71 x92 x109 x113 x120 x138 base s k =>
  bndP (nilchkA x8) fun y0 =>
  bndP (fldA 3 y0) fun y1 =>
  bndP (loadQ false 1 y1 s.h) fun y2 =>
  bndP (binQ .eql y2 ((.int .i64 0) : AV)) fun y3 =>
  bndO (gd (wantG y3 true) (fun s => (pureO (some x5) s)) s) fun y4 s =>
  bndO (gd (wantG y3 true) (fun s => (pureO (some x8) s)) s) fun y5 s =>
  bndO (gd (wantG y3 true) (fun s => (pureO (nilchkA y5) s)) s) fun y6 s =>
  bndO (gd (wantG y3 true) (fun s => (pureO (fldA 1 y6) s)) s) fun y7 s =>
  bndO (gd (wantG y3 true) (fun s => (pureO (loadQ false 1 y7 s.h) s)) s) fun y8 s =>
  bndO (gd (wantG y3 true) (fun s => (pureO (idxQ 3 y4 y8) s)) s) fun y9 s =>
  bndO (gd (wantG y3 true) (fun s => (pureO (fldA 0 y9) s)) s) fun y10 s =>
  bndO (gd (wantG y3 true) (fun s => (pureO (loadQ false 1 y10 s.h) s)) s) fun y11 s =>
  bndO (gd (wantG y3 true) (fun s => (pureO (binQ .neq y11 ((.int .i64 1) : AV)) s)) s) fun y12 s =>
  bndO (gd (wantG y3 true) (fun s => (pureO (some y12) s)) s) fun y13 s =>
  bndO (gd (wantG y13 false) (fun s => (pureO (some x5) s)) s) fun y14 s =>
  bndO (gd (wantG y13 false) (fun s => (pureO (some x8) s)) s) fun y15 s =>
  bndO (gd (wantG y13 false) (fun s => (pureO (nilchkA y15) s)) s) fun y16 s =>
  bndO (gd (wantG y13 false) (fun s => (pureO (fldA 1 y16) s)) s) fun y17 s =>
  bndO (gd (wantG y13 false) (fun s => (pureO (loadQ false 1 y17 s.h) s)) s) fun y18 s =>
  bndO (gd (wantG y13 false) (fun s => (pureO (idxQ 3 y14 y18) s)) s) fun y19 s =>
  bndO (gd (wantG y13 false) (fun s => (pureO (fldA 2 y19) s)) s) fun y20 s =>
  bndO (gd (wantG y13 false) (fun s => (pureO (loadQ false 1 y20 s.h) s)) s) fun y21 s =>
  bndO (gd (wantG y13 false) (fun s => (pureO (binQ .neq y21 ((.str [116, 121, 112, 101]) : AV)) s)) s) fun y22 s =>
  bndO (gd (wantG y3 true) (fun s => (pureO (pickA y13 ((.bool true) : AV) y22) s)) s) fun y23 s =>
  bndP (pickA y3 y23 ((.bool false) : AV)) fun y24 =>
  k (.mk .top .top .top .top x5 .top .top x8 x9 .top .top .top .top y24 .top .top .top .top .top) s
noncomputable def S39r10 {R : Type} (call : Nat → List AV → M AV) : W39 → Nat → AS → (W39 → AS → Option R) → Option R := @W39.rec (fun _ => Nat → AS → (W39 → AS → Option R) → Option R) fun x0 x2 x3 x4 x5 x6 x7 x8 x9 x10 x18 x39 x42 x71 x92 x109 x113 x120 x138 base s k =>
  bndO (call 71 [x8, ((.int .i64 9) : AV)] s) fun y0 s =>
  k (.mk .top .top .top .top x5 .top .top x8 x9 .top .top .top .top .top .top .top .top .top .top) s
noncomputable def S39r11 {R : Type} (call : Nat → List AV → M AV) : W39 → Nat → AS → (W39 → AS → Option R) → Option R := @W39.rec (fun _ => Nat → AS → (W39 → AS → Option R) → Option R) fun x0 x2 x3 x4 x5 x6 x7 x8 x9 x10 x18 x39 x42 x71 x92 x109 x113 x120 x138 base s k =>
  bndP (nilchkA x8) fun y0 =>
  bndP (fldA 1 y0) fun y1 =>
  bndP (loadQ false 1 y1 s.h) fun y2 =>
  bndP (binQ .add y2 ((.int .i64 1) : AV)) fun y3 =>
  bndP (nilchkA x8) fun y4 =>
  bndP (fldA 1 y4) fun y5 =>
  bndO (storeQ y5 y3 1 s) fun _ s =>
  k (.mk .top .top .top .top x5 .top .top x8 x9 .top .top .top .top .top .top .top .top .top .top) s
noncomputable def S39r12 {R : Type} (call : Nat → List AV → M AV) : W39 → Nat → AS → (W39 → AS → Option R) → Option R := @W39.rec (fun _ => Nat → AS → (W39 → AS → Option R) → Option R) fun x0 x2 x3 x4 x5 x6 x7 x8 x9 x10 x18 x39 x42 x71 x92 x109 x113 x120 x138 base s k =>
  bndO (call 72 [x8] s) fun y0 s =>
  bndP (buildA [(.str []), .nils] [(0, 1, y0)]) fun y1 =>
  bndO (newQ (base + 3) (allocB [(.str []), .nils] (base + 3)) s) fun y2 s =>
  bndO (storeQ y2 y1 2 s) fun _ s =>
  k (.mk .top .top .top .top x5 .top .top x8 x9 y2 .top .top .top .top .top .top .top .top .top) s
noncomputable def S39r13 {R : Type} (call : Nat → List AV → M AV) : W39 → Nat → AS → (W39 → AS → Option R) → Option R := @W39.rec (fun _ => Nat → AS → (W39 → AS → Option R) → Option R) fun x0 x2 x3 x4 x5 x6 x7 x8 x9 x10 x18 x39 x42 x71 x92 x109 x113 x120 x138 base s k =>
  bndP (nilchkA x8) fun y0 =>
  bndP (fldA 3 y0) fun y1 =>
  bndP (loadQ false 1 y1 s.h) fun y2 =>
  bndP (binQ .eql y2 ((.int .i64 0) : AV)) fun y3 =>
  bndO (gd (wantG y3 true) (fun s => (pureO (some x8) s)) s) fun y4 s =>
  bndO (gd (wantG y3 true) (fun s => (quietQ call 73 [y4, ((.str [123]) : AV)] s)) s) fun y5 s =>
  bndP (pickA y3 y5 ((.bool false) : AV)) fun y6 =>
  k (.mk .top .top .top .top x5 .top .top x8 x9 x10 .top .top .top .top y6 .top .top .top .top) s
noncomputable def S39r14 {R : Type} (call : Nat → List AV → M AV) : W39 → Nat → AS → (W39 → AS → Option R) → Option R := @W39.rec (fun _ => Nat → AS → (W39 → AS → Option R) → Option R) fun x0 x2 x3 x4 x5 x6 x7 x8 x9 x10 x18 x39 x42 x71 x92 x109 x113 x120 x138 base s k =>
  bndP (nilchkA x8) fun y0 =>
  bndP (fldA 1 y0) fun y1 =>
  bndP (loadQ false 1 y1 s.h) fun y2 =>
  bndP (binQ .add y2 ((.int .i64 1) : AV)) fun y3 =>
  bndP (nilchkA x8) fun y4 =>
  bndP (fldA 1 y4) fun y5 =>
  bndO (storeQ y5 y3 1 s) fun _ s =>
  k (.mk .top .top .top .top x5 .top .top x8 x9 x10 .top .top .top .top .top .top .top .top .top) s
noncomputable def S39r15 {R : Type} (call : Nat → List AV → M AV) : W39 → Nat → AS → (W39 → AS → Option R) → Option R := @W39.rec (fun _ => Nat → AS → (W39 → AS → Option R) → Option R) fun x0 x2 x3 x4 x5 x6 x7 x8 x9 x10 x18 x39 x42 x71 x92 x109 x113 x120 x138 base s k =>
  bndP (nilchkA x8) fun y0 =>
  bndP (fldA 3 y0) fun y1 =>
  bndP (loadQ false 1 y1 s.h) fun y2 =>
  bndP (binQ .eql y2 ((.int .i64 0) : AV)) fun y3 =>
  bndO (gd (wantG y3 true) (fun s => (pureO (some x8) s)) s) fun y4 s =>
  bndO (gd (wantG y3 true) (fun s => (quietQ call 73 [y4, ((.str [125]) : AV)] s)) s) fun y5 s =>
  bndO (gd (wantG y3 true) (fun s => (pureO (notA y5) s)) s) fun y6 s =>
  bndP (pickA y3 y6 ((.bool false) : AV)) fun y7 =>
  k (.mk .top .top .top .top x5 .top .top x8 x9 x10 .top .top .top .top .top y7 .top .top .top) s
noncomputable def S39r16 {R : Type} (call : Nat → List AV → M AV) : W39 → Nat → AS → (W39 → AS → Option R) → Option R := @W39.rec (fun _ => Nat → AS → (W39 → AS → Option R) → Option R) fun x0 x2 x3 x4 x5 x6 x7 x8 x9 x10 x18 x39 x42 x71 x92 x109 x113 x120 x138 base s k =>
  bndP (fldA 1 x10) fun y0 =>
  bndP (loadQ false 1 y0 s.h) fun y1 =>
  bndP (lenAQ false y1) fun y2 =>
  bndP (binQ .eql y2 ((.int .i64 200) : AV)) fun y3 =>
  k (.mk .top .top .top .top x5 .top .top x8 x9 x10 .top .top .top .top .top .top y3 .top .top) s
noncomputable def S39r17 {R : Type} (call : Nat → List AV → M AV) : W39 → Nat → AS → (W39 → AS → Option R) → Option R := @W39.rec (fun _ => Nat → AS → (W39 → AS → Option R) → Option R) fun x0 x2 x3 x4 x5 x6 x7 x8 x9 x10 x18 x39 x42 x71 x92 x109 x113 x120 x138 base s k =>
  bndO (call 71 [x8, ((.int .i64 8) : AV)] s) fun y0 s =>
  k (.mk .top .top .top .top x5 .top .top x8 x9 x10 .top .top .top .top .top .top .top .top .top) s
noncomputable def S39r18 {R : Type} (call : Nat → List AV → M AV) : W39 → Nat → AS → (W39 → AS → Option R) → Option R := @W39.rec (fun _ => Nat → AS → (W39 → AS → Option R) → Option R) fun x0 x2 x3 x4 x5 x6 x7 x8 x9 x10 x18 x39 x42 x71 x92 x109 x113 x120 x138 base s k =>
  bndP (nilchkA x8) fun y0 =>
  bndP (fldA 3 y0) fun y1 =>
  bndP (loadQ false 1 y1 s.h) fun y2 =>
  bndP (binQ .eql y2 ((.int .i64 0) : AV)) fun y3 =>
  k (.mk .top .top .top .top x5 .top .top x8 x9 x10 .top .top .top .top .top .top .top y3 .top) s
noncomputable def S39r19 {R : Type} (call : Nat → List AV → M AV) : W39 → Nat → AS → (W39 → AS → Option R) → Option R := @W39.rec (fun _ => Nat → AS → (W39 → AS → Option R) → Option R) fun x0 x2 x3 x4 x5 x6 x7 x8 x9 x10 x18 x39 x42 x71 x92 x109 x113 x120 x138 base s k =>
  bndP (fldA 1 x10) fun y0 =>
  bndP (loadQ false 1 y0 s.h) fun y1 =>
  bndO (ckd (fun h h' => (rcS (some true) (fun h => (loadA false 1 y0 h)) h h' && true)) (fun s => (call 74 [x8] s)) s) fun y2 s =>
  bndP (rowsA [(.str []), .nils, .nils] 1 [(0, y2)]) fun y3 =>
  bndO (appQ (base + 5) 3 64 y1 y3 s) fun y4 s =>
  bndP (fldA 1 x10) fun y5 =>
  bndO (storeQ y5 y4 1 s) fun _ s =>
  k (.mk .top .top .top .top x5 .top .top x8 x9 x10 .top .top .top .top .top .top .top .top .top) s
noncomputable def S39b20 {R : Type} (call : Nat → List AV → M AV) (fuel : Nat) : SC W39 W39 R := sSeq (sSeq (sReg 10 (S39r15 call)) (sCond (@W39.rec (fun _ => AV) fun _ _ _ _ _ _ _ _ _ _ _ _ _ _ _ x109 _ _ _ => x109) (sSkip) (sExit 2))) (sBlock 3 (sSeq (sSeq (sReg 4 (S39r16 call)) (sCond (@W39.rec (fun _ => AV) fun _ _ _ _ _ _ _ _ _ _ _ _ _ _ _ _ x113 _ _ => x113) (sReg 2 (S39r17 call)) (sSkip))) (sSeq (sReg 5 (S39r18 call)) (sCond (@W39.rec (fun _ => AV) fun _ _ _ _ _ _ _ _ _ _ _ _ _ _ _ _ _ x120 _ => x120) (sReg 8 (S39r19 call)) (sSkip)))))
noncomputable def S39r21 {R : Type} (call : Nat → List AV → M AV) : W39 → Nat → AS → (W39 → AS → Option R) → Option R := @W39.rec (fun _ => Nat → AS → (W39 → AS → Option R) → Option R) fun x0 x2 x3 x4 x5 x6 x7 x8 x9 x10 x18 x39 x42 x71 x92 x109 x113 x120 x138 base s k =>
  bndO (call 75 [x8, ((.str [125]) : AV)] s) fun y0 s =>
  k (.mk .top .top .top .top x5 .top .top x8 x9 x10 .top .top .top .top .top .top .top .top .top) s
noncomputable def S39r22 {R : Type} (call : Nat → List AV → M AV) : W39 → Nat → AS → (W39 → AS → Option R) → Option R := @W39.rec (fun _ => Nat → AS → (W39 → AS → Option R) → Option R) fun x0 x2 x3 x4 x5 x6 x7 x8 x9 x10 x18 x39 x42 x71 x92 x109 x113 x120 x138 base s k =>
  bndP (loadQ true 2 x10 s.h) fun y0 =>
  bndP (rowsA [(.str []), .nils] 1 [(0, y0)]) fun y1 =>
  bndO (appQ (base + 3) 2 40 x9 y1 s) fun y2 s =>
  k (.mk .top .top .top .top x5 .top .top x8 y2 .top .top .top .top .top .top .top .top .top .top) s
noncomputable def S39b23 {R : Type} (call : Nat → List AV → M AV) (fuel : Nat) : SC W39 W39 R := sSeq (sSeq (sReg 14 (S39r6 call)) (sCond (@W39.rec (fun _ => AV) fun _ _ _ _ _ _ _ _ _ _ _ x39 _ _ _ _ _ _ _ => x39) (sSkip) (sExit 0))) (sBlock 1 (sSeq (sSeq (sReg 3 (S39r7 call)) (sCond (@W39.rec (fun _ => AV) fun _ _ _ _ _ _ _ _ _ _ _ _ x42 _ _ _ _ _ _ => x42) (sReg 2 (S39r8 call)) (sSkip))) (sSeq (sSeq (sReg 27 (S39r9 call)) (sCond (@W39.rec (fun _ => AV) fun _ _ _ _ _ _ _ _ _ _ _ _ _ x71 _ _ _ _ _ => x71) (sReg 2 (S39r10 call)) (sSkip))) (sSeq (sReg 8 (S39r11 call)) (sSeq (sReg 5 (S39r12 call)) (sSeq (sSeq (sReg 9 (S39r13 call)) (sCond (@W39.rec (fun _ => AV) fun _ _ _ _ _ _ _ _ _ _ _ _ _ _ x92 _ _ _ _ => x92) (sSeq (sReg 8 (S39r14 call)) (sSeq (sBlock 2 (sLoop fuel (S39b20 call fuel))) (sReg 2 (S39r21 call)))) (sSkip))) (sReg 5 (S39r22 call))))))))
noncomputable def S39r24 {R : Type} (call : Nat → List AV → M AV) : W39 → Nat → AS → (W39 → AS → Option R) → Option R := @W39.rec (fun _ => Nat → AS → (W39 → AS → Option R) → Option R) fun x0 x2 x3 x4 x5 x6 x7 x8 x9 x10 x18 x39 x42 x71 x92 x109 x113 x120 x138 base s k =>
  bndP (nilchkA x8) fun y0 =>
  bndP (fldA 3 y0) fun y1 =>
  bndP (loadQ false 1 y1 s.h) fun y2 =>
  bndP (binQ .neq y2 ((.int .i64 0) : AV)) fun y3 =>
  k (.mk .top .top .top .top .top .top .top x8 x9 .top .top .top .top .top .top .top .top .top y3) s
noncomputable def S39r25 {R : Type} (call : Nat → List AV → M AV) : W39 → Nat → AS → (W39 → AS → Option R) → Option R := @W39.rec (fun _ => Nat → AS → (W39 → AS → Option R) → Option R) fun x0 x2 x3 x4 x5 x6 x7 x8 x9 x10 x18 x39 x42 x71 x92 x109 x113 x120 x138 base s k =>
  bndP (nilchkA x8) fun y0 =>
  bndP (fldA 4 y0) fun y1 =>
  bndP (nilchkA x8) fun y2 =>
  bndP (fldA 3 y2) fun y3 =>
  bndP (loadQ false 1 y1 s.h) fun y4 =>
  bndP (loadQ false 1 y3 s.h) fun y5 =>
  k (.mk .top (.nils : AV) y4 y5 .top .top .top .top .top .top .top .top .top .top .top .top .top .top .top) s
noncomputable def S39r26 {R : Type} (call : Nat → List AV → M AV) : W39 → Nat → AS → (W39 → AS → Option R) → Option R := @W39.rec (fun _ => Nat → AS → (W39 → AS → Option R) → Option R) fun x0 x2 x3 x4 x5 x6 x7 x8 x9 x10 x18 x39 x42 x71 x92 x109 x113 x120 x138 base s k =>
  k (.mk .top x9 ((.int .i64 0) : AV) ((.int .i64 0) : AV) .top .top .top .top .top .top .top .top .top .top .top .top .top .top .top) s
noncomputable def S39c {R : Type} (call : Nat → List AV → M AV) (fuel : Nat) : SC V39 W39 R := sSeq (sReg 3 (S39r0 call)) (sSeq (sReg 9 (S39r1 call)) (sSeq (sSeq (sReg 2 (S39r2 call)) (sCond (@W39.rec (fun _ => AV) fun _ _ _ _ _ _ _ _ _ _ x18 _ _ _ _ _ _ _ _ => x18) (sSeq (sReg 5 (S39r3 call)) (sRet)) (sSkip))) (sSeq (sReg 6 (S39r4 call)) (sSeq (sReg 1 (S39r5 call)) (sSeq (sBlock 0 (sLoop fuel (S39b23 call fuel))) (sSeq (sSeq (sReg 5 (S39r24 call)) (sCond (@W39.rec (fun _ => AV) fun _ _ _ _ _ _ _ _ _ _ _ _ _ _ _ _ _ _ x138 => x138) (sSeq (sReg 11 (S39r25 call)) (sRet)) (sSkip))) (sSeq (sReg 4 (S39r26 call)) (sRet))))))))
noncomputable def S39e : Ex → W39 → AS → Option (AV × AS) := fun e w s => (@W39.rec (fun _ => Option (AV × AS)) fun _ x2 x3 x4 _ _ _ _ _ _ _ _ _ _ _ _ _ _ _ => @Ex.rec (fun _ => Option (AV × AS)) (some (.tup [x2, x3, x4], s)) (fun _ => none) (some (.tup [x2, x3, x4], s)) e) w
noncomputable def S39 (call : Nat → List AV → M AV) (fuel : Nat) (args : List AV) (s : AS) : Option (AV × AS) := match args with
  | [x0] => S39c call fuel x0 s S39e
  | _ => none
theorem S39_sim (call : Nat → List AV → M AV) (fuel : Nat) : Sim (R := AV × AS) call fuel mi39 mo39 A39.code (S39c call fuel) := by
  refine sim_seq (sim_reg (fun x0 _ _ _ => by kernel_rfl)) (sim_seq (sim_reg (fun ⟨x0, x2, x3, x4, x5, x6, x7, x8, x9, x10, x18, x39, x42, x71, x92, x109, x113, x120, x138⟩ _ _ _ => by kernel_rfl)) (sim_seq (sim_seq (sim_reg (fun ⟨x0, x2, x3, x4, x5, x6, x7, x8, x9, x10, x18, x39, x42, x71, x92, x109, x113, x120, x138⟩ _ _ _ => by kernel_rfl)) (sim_cond (fun ⟨x0, x2, x3, x4, x5, x6, x7, x8, x9, x10, x18, x39, x42, x71, x92, x109, x113, x120, x138⟩ => by kernel_rfl) (sim_seq (sim_reg (fun ⟨x0, x2, x3, x4, x5, x6, x7, x8, x9, x10, x18, x39, x42, x71, x92, x109, x113, x120, x138⟩ _ _ _ => by kernel_rfl)) (sim_ret)) (sim_skip))) (sim_seq (sim_reg (fun ⟨x0, x2, x3, x4, x5, x6, x7, x8, x9, x10, x18, x39, x42, x71, x92, x109, x113, x120, x138⟩ _ _ _ => by kernel_rfl)) (sim_seq (sim_reg (fun ⟨x0, x2, x3, x4, x5, x6, x7, x8, x9, x10, x18, x39, x42, x71, x92, x109, x113, x120, x138⟩ _ _ _ => by kernel_rfl)) (sim_seq (sim_block (sim_loop (sim_seq (sim_seq (sim_reg (fun ⟨x0, x2, x3, x4, x5, x6, x7, x8, x9, x10, x18, x39, x42, x71, x92, x109, x113, x120, x138⟩ _ _ _ => by kernel_rfl)) (sim_cond (fun ⟨x0, x2, x3, x4, x5, x6, x7, x8, x9, x10, x18, x39, x42, x71, x92, x109, x113, x120, x138⟩ => by kernel_rfl) (sim_skip) (sim_exit))) (sim_block (sim_seq (sim_seq (sim_reg (fun ⟨x0, x2, x3, x4, x5, x6, x7, x8, x9, x10, x18, x39, x42, x71, x92, x109, x113, x120, x138⟩ _ _ _ => by kernel_rfl)) (sim_cond (fun ⟨x0, x2, x3, x4, x5, x6, x7, x8, x9, x10, x18, x39, x42, x71, x92, x109, x113, x120, x138⟩ => by kernel_rfl) (sim_reg (fun ⟨x0, x2, x3, x4, x5, x6, x7, x8, x9, x10, x18, x39, x42, x71, x92, x109, x113, x120, x138⟩ _ _ _ => by kernel_rfl)) (sim_skip))) (sim_seq (sim_seq (sim_reg (fun ⟨x0, x2, x3, x4, x5, x6, x7, x8, x9, x10, x18, x39, x42, x71, x92, x109, x113, x120, x138⟩ _ _ _ => by kernel_rfl)) (sim_cond (fun ⟨x0, x2, x3, x4, x5, x6, x7, x8, x9, x10, x18, x39, x42, x71, x92, x109, x113, x120, x138⟩ => by kernel_rfl) (sim_reg (fun ⟨x0, x2, x3, x4, x5, x6, x7, x8, x9, x10, x18, x39, x42, x71, x92, x109, x113, x120, x138⟩ _ _ _ => by kernel_rfl)) (sim_skip))) (sim_seq (sim_reg (fun ⟨x0, x2, x3, x4, x5, x6, x7, x8, x9, x10, x18, x39, x42, x71, x92, x109, x113, x120, x138⟩ _ _ _ => by kernel_rfl)) (sim_seq (sim_reg (fun ⟨x0, x2, x3, x4, x5, x6, x7, x8, x9, x10, x18, x39, x42, x71, x92, x109, x113, x120, x138⟩ _ _ _ => by kernel_rfl)) (sim_seq (sim_seq (sim_reg (fun ⟨x0, x2, x3, x4, x5, x6, x7, x8, x9, x10, x18, x39, x42, x71, x92, x109, x113, x120, x138⟩ _ _ _ => by kernel_rfl)) (sim_cond (fun ⟨x0, x2, x3, x4, x5, x6, x7, x8, x9, x10, x18, x39, x42, x71, x92, x109, x113, x120, x138⟩ => by kernel_rfl) (sim_seq (sim_reg (fun ⟨x0, x2, x3, x4, x5, x6, x7, x8, x9, x10, x18, x39, x42, x71, x92, x109, x113, x120, x138⟩ _ _ _ => by kernel_rfl)) (sim_seq (sim_block (sim_loop (sim_seq (sim_seq (sim_reg (fun ⟨x0, x2, x3, x4, x5, x6, x7, x8, x9, x10, x18, x39, x42, x71, x92, x109, x113, x120, x138⟩ _ _ _ => by kernel_rfl)) (sim_cond (fun ⟨x0, x2, x3, x4, x5, x6, x7, x8, x9, x10, x18, x39, x42, x71, x92, x109, x113, x120, x138⟩ => by kernel_rfl) (sim_skip) (sim_exit))) (sim_block (sim_seq (sim_seq (sim_reg (fun ⟨x0, x2, x3, x4, x5, x6, x7, x8, x9, x10, x18, x39, x42, x71, x92, x109, x113, x120, x138⟩ _ _ _ => by kernel_rfl)) (sim_cond (fun ⟨x0, x2, x3, x4, x5, x6, x7, x8, x9, x10, x18, x39, x42, x71, x92, x109, x113, x120, x138⟩ => by kernel_rfl) (sim_reg (fun ⟨x0, x2, x3, x4, x5, x6, x7, x8, x9, x10, x18, x39, x42, x71, x92, x109, x113, x120, x138⟩ _ _ _ => by kernel_rfl)) (sim_skip))) (sim_seq (sim_reg (fun ⟨x0, x2, x3, x4, x5, x6, x7, x8, x9, x10, x18, x39, x42, x71, x92, x109, x113, x120, x138⟩ _ _ _ => by kernel_rfl)) (sim_cond (fun ⟨x0, x2, x3, x4, x5, x6, x7, x8, x9, x10, x18, x39, x42, x71, x92, x109, x113, x120, x138⟩ => by kernel_rfl) (sim_reg (fun ⟨x0, x2, x3, x4, x5, x6, x7, x8, x9, x10, x18, x39, x42, x71, x92, x109, x113, x120, x138⟩ _ _ _ => by kernel_rfl)) (sim_skip)))))))) (sim_reg (fun ⟨x0, x2, x3, x4, x5, x6, x7, x8, x9, x10, x18, x39, x42, x71, x92, x109, x113, x120, x138⟩ _ _ _ => by kernel_rfl)))) (sim_skip))) (sim_reg (fun ⟨x0, x2, x3, x4, x5, x6, x7, x8, x9, x10, x18, x39, x42, x71, x92, x109, x113, x120, x138⟩ _ _ _ => by kernel_rfl))))))))))) (sim_seq (sim_seq (sim_reg (fun ⟨x0, x2, x3, x4, x5, x6, x7, x8, x9, x10, x18, x39, x42, x71, x92, x109, x113, x120, x138⟩ _ _ _ => by kernel_rfl)) (sim_cond (fun ⟨x0, x2, x3, x4, x5, x6, x7, x8, x9, x10, x18, x39, x42, x71, x92, x109, x113, x120, x138⟩ => by kernel_rfl) (sim_seq (sim_reg (fun ⟨x0, x2, x3, x4, x5, x6, x7, x8, x9, x10, x18, x39, x42, x71, x92, x109, x113, x120, x138⟩ _ _ _ => by kernel_rfl)) (sim_ret)) (sim_skip))) (sim_seq (sim_reg (fun ⟨x0, x2, x3, x4, x5, x6, x7, x8, x9, x10, x18, x39, x42, x71, x92, x109, x113, x120, x138⟩ _ _ _ => by kernel_rfl)) (sim_ret))))))))
theorem S39_ok (call : Nat → List AV → M AV) (fuel : Nat) (args : List AV) (s : AS) : afn call fuel A39 args s = S39 call fuel args s := by
  rcases args with _ | ⟨x0, _ | ⟨x1, r⟩⟩
  · kernel_rfl
  · exact (afn_sim (S39_sim call fuel) (v := x0) (e2 := S39e) (by kernel_rfl) (by kernel_rfl) (fun e w s => by cases w; cases e <;> kernel_rfl)).trans (by kernel_rfl)
  · kernel_rfl
def A42 : AFn := { nargs := 2, ntmps := 19, res := [.tmp 4], code := .seq (.ops [⟨0, (some 4), none, .p (.mv (.const (.int .i64 0))), []⟩] 1 [0, 1]) (.seq (.seq (.ops [⟨0, (some 6), none, .p (.mv (.tmp 0)), []⟩, ⟨1, (some 7), none, .p (.lenS false (.tmp 6)), []⟩, ⟨2, (some 8), none, .p (.mv (.const (.int .i64 0))), []⟩] 3 [0, 1, 7, 8]) (.block 0 (.loop (.seq (.ops [⟨0, (some 9), none, .p (.bin .lss (.tmp 8) (.tmp 7)), []⟩] 1 [0, 1, 7, 8, 9]) (.seq (.cond (.tmp 9) (.skip) (.exit 0)) (.seq (.block 1 (.seq (.ops [⟨0, (some 10), none, .p (.mv (.tmp 8)), []⟩, ⟨1, (some 5), none, .p (.mv (.tmp 10)), []⟩] 2 [0, 1, 5, 7, 8]) (.seq (.ops [⟨0, (some 11), none, .p (.mv (.tmp 1)), []⟩, ⟨1, (some 12), none, .p (.mv (.tmp 0)), []⟩, ⟨2, (some 13), none, .p (.mv (.tmp 5)), []⟩, ⟨3, (some 14), none, .p (.idx 2 (.tmp 12) (.tmp 13)), []⟩, ⟨4, (some 15), none, .r (.load true 2 (.tmp 14)), []⟩, ⟨5, (some 16), none, .e (.callv true (.tmp 11) [.tmp 15]), []⟩] 6 [0, 1, 5, 7, 8, 16]) (.cond (.tmp 16) (.seq (.ops [⟨0, (some 17), none, .p (.mv (.tmp 5)), []⟩, ⟨1, (some 4), none, .p (.mv (.tmp 17)), []⟩] 2 [4]) (.ret)) (.skip))))) (.ops [⟨0, (some 18), none, .p (.bin .add (.tmp 8) (.const (.int .i64 1))), []⟩, ⟨1, (some 8), none, .p (.mv (.tmp 18)), []⟩] 2 [0, 1, 7, 8]))))))) (.seq (.ops [⟨0, (some 4), none, .p (.mv (.const (.int .i64 (-1)))), []⟩] 1 [4]) (.ret))) }
def N42 : Notes := { note := fun _ => none, keep := fun | 7 => [4] | 6 => [0, 1, 7, 8] | 5 => [4] | 4 => [0, 1, 5, 7, 8, 16] | 3 => [0, 1, 5, 7, 8] | 2 => [0, 1, 7, 8, 9] | 1 => [0, 1, 7, 8] | 0 => [0, 1] | _ => [] }
theorem A42_ok : cFn Try.prog qf N42 Try.f42 = some A42 := by kernel_rfl
inductive W42 where
  | mk (x0 x1 x4 x5 x7 x8 x9 x16 : AV)
inductive V42 where
  | mk (x0 x1 : AV)
def mo42 : W42 → Fr := fun ⟨x0, x1, x4, x5, x7, x8, x9, x16⟩ => [x0, x1, .top, .top, x4, x5, .top, x7, x8, x9, .top, .top, .top, .top, .top, .top, x16, .top, .top]
def mi42 : V42 → Fr := fun ⟨x0, x1⟩ => [x0, x1, .tup [], .tup [], .tup [], .tup [], .tup [], .tup [], .tup [], .tup [], .tup [], .tup [], .tup [], .tup [], .tup [], .tup [], .tup [], .tup [], .tup []]
noncomputable def S42r0 {R : Type} (call : Nat → List AV → M AV) : V42 → Nat → AS → (W42 → AS → Option R) → Option R := @V42.rec (fun _ => Nat → AS → (W42 → AS → Option R) → Option R) fun x0 x1 base s k =>
  k (.mk x0 x1 .top .top .top .top .top .top) s
noncomputable def S42r1 {R : Type} (call : Nat → List AV → M AV) : W42 → Nat → AS → (W42 → AS → Option R) → Option R := @W42.rec (fun _ => Nat → AS → (W42 → AS → Option R) → Option R) fun x0 x1 x4 x5 x7 x8 x9 x16 base s k =>
  bndP (lenAQ false x0) fun y0 =>
  k (.mk x0 x1 .top .top y0 ((.int .i64 0) : AV) .top .top) s
noncomputable def S42r2 {R : Type} (call : Nat → List AV → M AV) : W42 → Nat → AS → (W42 → AS → Option R) → Option R := @W42.rec (fun _ => Nat → AS → (W42 → AS → Option R) → Option R) fun x0 x1 x4 x5 x7 x8 x9 x16 base s k =>
  bndP (binQ .lss x8 x7) fun y0 =>
  k (.mk x0 x1 .top .top x7 x8 y0 .top) s
noncomputable def S42r3 {R : Type} (call : Nat → List AV → M AV) : W42 → Nat → AS → (W42 → AS → Option R) → Option R := @W42.rec (fun _ => Nat → AS → (W42 → AS → Option R) → Option R) fun x0 x1 x4 x5 x7 x8 x9 x16 base s k =>
  k (.mk x0 x1 .top x8 x7 x8 .top .top) s
noncomputable def S42r4 {R : Type} (call : Nat → List AV → M AV) : W42 → Nat → AS → (W42 → AS → Option R) → Option R := @W42.rec (fun _ => Nat → AS → (W42 → AS → Option R) → Option R) fun x0 x1 x4 x5 x7 x8 x9 x16 base s k =>
  bndP (idxQ 2 x0 x5) fun y0 =>
  bndP (loadQ true 2 y0 s.h) fun y1 =>
  bndO (callvQ call true x1 [y1] s) fun y2 s =>
  k (.mk x0 x1 .top x5 x7 x8 .top y2) s
noncomputable def S42r5 {R : Type} (call : Nat → List AV → M AV) : W42 → Nat → AS → (W42 → AS → Option R) → Option R := @W42.rec (fun _ => Nat → AS → (W42 → AS → Option R) → Option R) fun x0 x1 x4 x5 x7 x8 x9 x16 base s k =>
  k (.mk .top .top x5 .top .top .top .top .top) s
noncomputable def S42r6 {R : Type} (call : Nat → List AV → M AV) : W42 → Nat → AS → (W42 → AS → Option R) → Option R := @W42.rec (fun _ => Nat → AS → (W42 → AS → Option R) → Option R) fun x0 x1 x4 x5 x7 x8 x9 x16 base s k =>
  bndP (binQ .add x8 ((.int .i64 1) : AV)) fun y0 =>
  k (.mk x0 x1 .top .top x7 y0 .top .top) s
noncomputable def S42b7 {R : Type} (call : Nat → List AV → M AV) (fuel : Nat) : SC W42 W42 R := sSeq (sReg 1 (S42r2 call)) (sSeq (sCond (@W42.rec (fun _ => AV) fun _ _ _ _ _ _ x9 _ => x9) (sSkip) (sExit 0)) (sSeq (sBlock 1 (sSeq (sReg 2 (S42r3 call)) (sSeq (sReg 6 (S42r4 call)) (sCond (@W42.rec (fun _ => AV) fun _ _ _ _ _ _ _ x16 => x16) (sSeq (sReg 2 (S42r5 call)) (sRet)) (sSkip))))) (sReg 2 (S42r6 call))))
noncomputable def S42r8 {R : Type} (call : Nat → List AV → M AV) : W42 → Nat → AS → (W42 → AS → Option R) → Option R := @W42.rec (fun _ => Nat → AS → (W42 → AS → Option R) → Option R) fun x0 x1 x4 x5 x7 x8 x9 x16 base s k =>
  k (.mk .top .top ((.int .i64 (-1)) : AV) .top .top .top .top .top) s
noncomputable def S42c {R : Type} (call : Nat → List AV → M AV) (fuel : Nat) : SC V42 W42 R := sSeq (sReg 1 (S42r0 call)) (sSeq (sSeq (sReg 3 (S42r1 call)) (sBlock 0 (sLoop fuel (S42b7 call fuel)))) (sSeq (sReg 1 (S42r8 call)) (sRet)))
noncomputable def S42e : Ex → W42 → AS → Option (AV × AS) := fun e w s => (@W42.rec (fun _ => Option (AV × AS)) fun _ _ x4 _ _ _ _ _ => @Ex.rec (fun _ => Option (AV × AS)) (some (x4, s)) (fun _ => none) (some (x4, s)) e) w
noncomputable def S42 (call : Nat → List AV → M AV) (fuel : Nat) (args : List AV) (s : AS) : Option (AV × AS) := match args with
  | [x0, x1] => S42c call fuel (.mk x0 x1) s S42e
  | _ => none
theorem S42_sim (call : Nat → List AV → M AV) (fuel : Nat) : Sim (R := AV × AS) call fuel mi42 mo42 A42.code (S42c call fuel) := by
  refine sim_seq (sim_reg (fun ⟨x0, x1⟩ _ _ _ => by kernel_rfl)) (sim_seq (sim_seq (sim_reg (fun ⟨x0, x1, x4, x5, x7, x8, x9, x16⟩ _ _ _ => by kernel_rfl)) (sim_block (sim_loop (sim_seq (sim_reg (fun ⟨x0, x1, x4, x5, x7, x8, x9, x16⟩ _ _ _ => by kernel_rfl)) (sim_seq (sim_cond (fun ⟨x0, x1, x4, x5, x7, x8, x9, x16⟩ => by kernel_rfl) (sim_skip) (sim_exit)) (sim_seq (sim_block (sim_seq (sim_reg (fun ⟨x0, x1, x4, x5, x7, x8, x9, x16⟩ _ _ _ => by kernel_rfl)) (sim_seq (sim_reg (fun ⟨x0, x1, x4, x5, x7, x8, x9, x16⟩ _ _ _ => by kernel_rfl)) (sim_cond (fun ⟨x0, x1, x4, x5, x7, x8, x9, x16⟩ => by kernel_rfl) (sim_seq (sim_reg (fun ⟨x0, x1, x4, x5, x7, x8, x9, x16⟩ _ _ _ => by kernel_rfl)) (sim_ret)) (sim_skip))))) (sim_reg (fun ⟨x0, x1, x4, x5, x7, x8, x9, x16⟩ _ _ _ => by kernel_rfl)))))))) (sim_seq (sim_reg (fun ⟨x0, x1, x4, x5, x7, x8, x9, x16⟩ _ _ _ => by kernel_rfl)) (sim_ret)))
theorem S42_ok (call : Nat → List AV → M AV) (fuel : Nat) (args : List AV) (s : AS) : afn call fuel A42 args s = S42 call fuel args s := by
  rcases args with _ | ⟨x0, _ | ⟨x1, _ | ⟨x2, r⟩⟩⟩
  · kernel_rfl
  · kernel_rfl
  · exact (afn_sim (S42_sim call fuel) (v := (.mk x0 x1)) (e2 := S42e) (by kernel_rfl) (by kernel_rfl) (fun e w s => by cases w; cases e <;> kernel_rfl)).trans (by kernel_rfl)
  · kernel_rfl
def A43 : AFn := { nargs := 2, ntmps := 10, res := [.tmp 3], code := .seq (.ops [⟨0, (some 2), none, .l (.box (.tmp 0)), []⟩, ⟨1, (some 3), none, .p (.mv (.const (.bool false))), []⟩] 2 [1, 2]) (.seq (.ops [⟨0, (some 4), none, .p (.fld 0 (.tmp 2)), []⟩, ⟨1, (some 5), none, .r (.load false 1 (.tmp 4)), []⟩, ⟨2, (some 6), none, .p (.fld 0 (.tmp 1)), []⟩, ⟨3, (some 7), none, .p (.fld 0 (.tmp 6)), []⟩, ⟨4, (some 8), none, .r (.load false 1 (.tmp 7)), []⟩, ⟨5, (some 9), none, .p (.bin .eql (.tmp 5) (.tmp 8)), []⟩, ⟨6, (some 3), none, .p (.mv (.tmp 9)), []⟩] 7 [3]) (.ret)) }
def N43 : Notes := { note := fun _ => none, keep := fun | 1 => [3] | 0 => [1, 2] | _ => [] }
theorem A43_ok : cFn Try.prog qf N43 Try.f43 = some A43 := by kernel_rfl
inductive W43 where
  | mk (x1 x2 x3 : AV)
inductive V43 where
  | mk (x0 x1 : AV)
def mo43 : W43 → Fr := fun ⟨x1, x2, x3⟩ => [.top, x1, x2, x3, .top, .top, .top, .top, .top, .top]
def mi43 : V43 → Fr := fun ⟨x0, x1⟩ => [x0, x1, .tup [], .tup [], .tup [], .tup [], .tup [], .tup [], .tup [], .tup []]
noncomputable def S43r0 {R : Type} (call : Nat → List AV → M AV) : V43 → Nat → AS → (W43 → AS → Option R) → Option R := @V43.rec (fun _ => Nat → AS → (W43 → AS → Option R) → Option R) fun x0 x1 base s k =>
  bndO (newQ (base + 0) (boxB x0 (base + 0)) s) fun y0 s =>
  k (.mk x1 y0 .top) s
noncomputable def S43r1 {R : Type} (call : Nat → List AV → M AV) : W43 → Nat → AS → (W43 → AS → Option R) → Option R := @W43.rec (fun _ => Nat → AS → (W43 → AS → Option R) → Option R) fun x1 x2 x3 base s k =>
  bndP (fldA 0 x2) fun y0 =>
  bndP (loadQ false 1 y0 s.h) fun y1 =>
  bndP (fldA 0 x1) fun y2 =>
  bndP (fldA 0 y2) fun y3 =>
  bndP (loadQ false 1 y3 s.h) fun y4 =>
  bndP (binQ .eql y1 y4) fun y5 =>
  k (.mk .top .top y5) s
noncomputable def S43c {R : Type} (call : Nat → List AV → M AV) (fuel : Nat) : SC V43 W43 R := sSeq (sReg 2 (S43r0 call)) (sSeq (sReg 7 (S43r1 call)) (sRet))
noncomputable def S43e : Ex → W43 → AS → Option (AV × AS) := fun e w s => (@W43.rec (fun _ => Option (AV × AS)) fun _ _ x3 => @Ex.rec (fun _ => Option (AV × AS)) (some (x3, s)) (fun _ => none) (some (x3, s)) e) w
noncomputable def S43 (call : Nat → List AV → M AV) (fuel : Nat) (args : List AV) (s : AS) : Option (AV × AS) := match args with
  | [x0, x1] => S43c call fuel (.mk x0 x1) s S43e
  | _ => none
theorem S43_sim (call : Nat → List AV → M AV) (fuel : Nat) : Sim (R := AV × AS) call fuel mi43 mo43 A43.code (S43c call fuel) := by
  refine sim_seq (sim_reg (fun ⟨x0, x1⟩ _ _ _ => by kernel_rfl)) (sim_seq (sim_reg (fun ⟨x1, x2, x3⟩ _ _ _ => by kernel_rfl)) (sim_ret))
theorem S43_ok (call : Nat → List AV → M AV) (fuel : Nat) (args : List AV) (s : AS) : afn call fuel A43 args s = S43 call fuel args s := by
  rcases args with _ | ⟨x0, _ | ⟨x1, _ | ⟨x2, r⟩⟩⟩
  · kernel_rfl
  · kernel_rfl
  · exact (afn_sim (S43_sim call fuel) (v := (.mk x0 x1)) (e2 := S43e) (by kernel_rfl) (by kernel_rfl) (fun e w s => by cases w; cases e <;> kernel_rfl)).trans (by kernel_rfl)
  · kernel_rfl
def A44 : AFn := { nargs := 1, ntmps := 42, res := [.tmp 2], code := .seq (.ops [⟨0, (some 1), none, .l (.box (.tmp 0)), []⟩, ⟨1, (some 2), none, .p (.mv (.const (.bool false))), []⟩] 2 [1]) (.seq (.ops [⟨0, (some 3), none, .p (.fld 0 (.tmp 1)), []⟩, ⟨1, (some 4), none, .p (.fld 0 (.tmp 3)), []⟩, ⟨2, (some 5), none, .r (.load false 1 (.tmp 4)), []⟩, ⟨3, (some 6), none, .e (.call true 76 [.tmp 5]), []⟩, ⟨4, (some 7), none, .p (.mv (.tmp 6)), []⟩, ⟨5, (some 8), (some (7, true)), .p (.fld 0 (.tmp 1)), []⟩, ⟨6, (some 9), (some (7, true)), .p (.fld 1 (.tmp 8)), []⟩, ⟨7, (some 10), (some (7, true)), .r (.load false 1 (.tmp 9)), []⟩, ⟨8, (some 11), (some (7, true)), .e (.call true 77 [.tmp 10]), []⟩, ⟨9, (some 12), none, .p (.pick (.tmp 7) (.tmp 11) (.const (.bool false))), []⟩, ⟨10, (some 13), none, .p (.mv (.tmp 12)), []⟩, ⟨11, (some 14), (some (13, true)), .p (.fld 2 (.tmp 1)), []⟩, ⟨12, (some 15), (some (13, true)), .r (.load false 1 (.tmp 14)), []⟩, ⟨13, (some 16), (some (13, true)), .e (.call true 76 [.tmp 15]), []⟩, ⟨14, (some 17), none, .p (.pick (.tmp 13) (.tmp 16) (.const (.bool false))), []⟩, ⟨15, (some 18), none, .p (.mv (.tmp 17)), []⟩, ⟨16, (some 19), (some (18, true)), .p (.fld 3 (.tmp 1)), []⟩, ⟨17, (some 20), (some (18, true)), .p (.fld 0 (.tmp 19)), []⟩, ⟨18, (some 21), (some (18, true)), .r (.load false 1 (.tmp 20)), []⟩, ⟨19, (some 22), (some (18, true)), .e (.call true 76 [.tmp 21]), []⟩, ⟨20, (some 23), none, .p (.pick (.tmp 18) (.tmp 22) (.const (.bool false))), []⟩, ⟨21, (some 24), none, .p (.mv (.tmp 23)), []⟩, ⟨22, (some 25), (some (24, true)), .p (.fld 3 (.tmp 1)), []⟩, ⟨23, (some 26), (some (24, true)), .p (.fld 1 (.tmp 25)), []⟩, ⟨24, (some 27), (some (24, true)), .r (.load false 1 (.tmp 26)), []⟩, ⟨25, (some 28), (some (24, true)), .e (.call true 77 [.tmp 27]), []⟩, ⟨26, (some 29), none, .p (.pick (.tmp 24) (.tmp 28) (.const (.bool false))), []⟩, ⟨27, (some 30), none, .p (.mv (.tmp 29)), []⟩, ⟨28, (some 31), (some (30, true)), .p (.fld 3 (.tmp 1)), []⟩, ⟨29, (some 32), (some (30, true)), .p (.fld 2 (.tmp 31)), []⟩, ⟨30, (some 33), (some (30, true)), .r (.load false 1 (.tmp 32)), []⟩, ⟨31, (some 34), (some (30, true)), .p (.bin .eql (.tmp 33) (.const (.str []))), []⟩, ⟨32, (some 35), (some (30, true)), .p (.mv (.tmp 34)), []⟩, ⟨33, (some 36), (some (35, false)), .p (.fld 3 (.tmp 1)), []⟩, ⟨34, (some 37), (some (35, false)), .p (.fld 2 (.tmp 36)), []⟩, ⟨35, (some 38), (some (35, false)), .r (.load false 1 (.tmp 37)), []⟩, ⟨36, (some 39), (some (35, false)), .e (.call true 76 [.tmp 38]), []⟩, ⟨37, (some 40), (some (30, true)), .p (.pick (.tmp 35) (.const (.bool true)) (.tmp 39)), []⟩, ⟨38, (some 41), none, .p (.pick (.tmp 30) (.tmp 40) (.const (.bool false))), []⟩, ⟨39, (some 2), none, .p (.mv (.tmp 41)), []⟩] 40 [2]) (.ret)) }
def N44 : Notes := { note := fun _ => none, keep := fun | 1 => [2] | 0 => [1] | _ => [] }
theorem A44_ok : cFn Try.prog qf N44 Try.f44 = some A44 := by kernel_rfl
inductive W44 where
  | mk (x1 x2 : AV)
abbrev V44 := AV
def mo44 : W44 → Fr := fun ⟨x1, x2⟩ => [.top, x1, x2, .top, .top, .top, .top, .top, .top, .top, .top, .top, .top, .top, .top, .top, .top, .top, .top, .top, .top, .top, .top, .top, .top, .top, .top, .top, .top, .top, .top, .top, .top, .top, .top, .top, .top, .top, .top, .top, .top, .top]
def mi44 : V44 → Fr := fun x0 => [x0, .tup [], .tup [], .tup [], .tup [], .tup [], .tup [], .tup [], .tup [], .tup [], .tup [], .tup [], .tup [], .tup [], .tup [], .tup [], .tup [], .tup [], .tup [], .tup [], .tup [], .tup [], .tup [], .tup [], .tup [], .tup [], .tup [], .tup [], .tup [], .tup [], .tup [], .tup [], .tup [], .tup [], .tup [], .tup [], .tup [], .tup [], .tup [], .tup [], .tup [], .tup []]
noncomputable def S44r0 {R : Type} (call : Nat → List AV → M AV) : V44 → Nat → AS → (W44 → AS → Option R) → Option R := fun x0 base s k =>
  bndO (newQ (base + 0) (boxB x0 (base + 0)) s) fun y0 s =>
  k (.mk y0 .top) s
noncomputable def S44r1 {R : Type} (call : Nat → List AV → M AV) : W44 → Nat → AS → (W44 → AS → Option R) → Option R := @W44.rec (fun _ => Nat → AS → (W44 → AS → Option R) → Option R) fun x1 x2 base s k =>
  bndP (fldA 0 x1) fun y0 =>
  bndP (fldA 0 y0) fun y1 =>
  bndP (loadQ false 1 y1 s.h) fun y2 =>
  bndO (quietQ call 76 [y2] s) fun y3 s =>
  bndO (gd (wantG y3 true) (fun s => (pureO (fldA 0 x1) s)) s) fun y4 s =>
  bndO (gd (wantG y3 true) (fun s => (pureO (fldA 1 y4) s)) s) fun y5 s =>
  bndO (gd (wantG y3 true) (fun s => (pureO (loadQ false 1 y5 s.h) s)) s) fun y6 s =>
  bndO (gd (wantG y3 true) (fun s => (quietQ call 77 [y6] s)) s) fun y7 s =>
  bndP (pickA y3 y7 ((.bool false) : AV)) fun y8 =>
  bndO (gd (wantG y8 true) (fun s => (pureO (fldA 2 x1) s)) s) fun y9 s =>
  bndO (gd (wantG y8 true) (fun s => (pureO (loadQ false 1 y9 s.h) s)) s) fun y10 s =>
  bndO (gd (wantG y8 true) (fun s => (quietQ call 76 [y10] s)) s) fun y11 s =>
  bndP (pickA y8 y11 ((.bool false) : AV)) fun y12 =>
  bndO (gd (wantG y12 true) (fun s => (pureO (fldA 3 x1) s)) s) fun y13 s =>
  bndO (gd (wantG y12 true) (fun s => (pureO (fldA 0 y13) s)) s) fun y14 s =>
  bndO (gd (wantG y12 true) (fun s => (pureO (loadQ false 1 y14 s.h) s)) s) fun y15 s =>
  bndO (gd (wantG y12 true) (fun s => (quietQ call 76 [y15] s)) s) fun y16 s =>
  bndP (pickA y12 y16 ((.bool false) : AV)) fun y17 =>
  bndO (gd (wantG y17 true) (fun s => (pureO (fldA 3 x1) s)) s) fun y18 s =>
  bndO (gd (wantG y17 true) (fun s => (pureO (fldA 1 y18) s)) s) fun y19 s =>
  bndO (gd (wantG y17 true) (fun s => (pureO (loadQ false 1 y19 s.h) s)) s) fun y20 s =>
  bndO (gd (wantG y17 true) (fun s => (quietQ call 77 [y20] s)) s) fun y21 s =>
  bndP (pickA y17 y21 ((.bool false) : AV)) fun y22 =>
  bndO (gd (wantG y22 true) (fun s => (pureO (fldA 3 x1) s)) s) fun y23 s =>
  bndO (gd (wantG y22 true) (fun s => (pureO (fldA 2 y23) s)) s) fun y24 s =>
  bndO (gd (wantG y22 true) (fun s => (pureO (loadQ false 1 y24 s.h) s)) s) fun y25 s =>
  bndO (gd (wantG y22 true) (fun s => (pureO (binQ .eql y25 ((.str []) : AV)) s)) s) fun y26 s =>
  bndO (gd (wantG y22 true) (fun s => (pureO (some y26) s)) s) fun y27 s =>
  bndO (gd (wantG y27 false) (fun s => (pureO (fldA 3 x1) s)) s) fun y28 s =>
  bndO (gd (wantG y27 false) (fun s => (pureO (fldA 2 y28) s)) s) fun y29 s =>
  bndO (gd (wantG y27 false) (fun s => (pureO (loadQ false 1 y29 s.h) s)) s) fun y30 s =>
  bndO (gd (wantG y27 false) (fun s => (quietQ call 76 [y30] s)) s) fun y31 s =>
  bndO (gd (wantG y22 true) (fun s => (pureO (pickA y27 ((.bool true) : AV) y31) s)) s) fun y32 s =>
  bndP (pickA y22 y32 ((.bool false) : AV)) fun y33 =>
  k (.mk .top y33) s
noncomputable def S44c {R : Type} (call : Nat → List AV → M AV) (fuel : Nat) : SC V44 W44 R := sSeq (sReg 2 (S44r0 call)) (sSeq (sReg 40 (S44r1 call)) (sRet))
noncomputable def S44e : Ex → W44 → AS → Option (AV × AS) := fun e w s => (@W44.rec (fun _ => Option (AV × AS)) fun _ x2 => @Ex.rec (fun _ => Option (AV × AS)) (some (x2, s)) (fun _ => none) (some (x2, s)) e) w
noncomputable def S44 (call : Nat → List AV → M AV) (fuel : Nat) (args : List AV) (s : AS) : Option (AV × AS) := match args with
  | [x0] => S44c call fuel x0 s S44e
  | _ => none
theorem S44_sim (call : Nat → List AV → M AV) (fuel : Nat) : Sim (R := AV × AS) call fuel mi44 mo44 A44.code (S44c call fuel) := by
  refine sim_seq (sim_reg (fun x0 _ _ _ => by kernel_rfl)) (sim_seq (sim_reg (fun ⟨x1, x2⟩ _ _ _ => by kernel_rfl)) (sim_ret))
theorem S44_ok (call : Nat → List AV → M AV) (fuel : Nat) (args : List AV) (s : AS) : afn call fuel A44 args s = S44 call fuel args s := by
  rcases args with _ | ⟨x0, _ | ⟨x1, r⟩⟩
  · kernel_rfl
  · exact (afn_sim (S44_sim call fuel) (v := x0) (e2 := S44e) (by kernel_rfl) (by kernel_rfl) (fun e w s => by cases w; cases e <;> kernel_rfl)).trans (by kernel_rfl)
  · kernel_rfl
def A45 : AFn := { nargs := 2, ntmps := 19, res := [.tmp 4], code := .seq (.ops [⟨0, (some 4), none, .p (.mv (.const (.int .i64 0))), []⟩] 1 [0, 1]) (.seq (.seq (.ops [⟨0, (some 6), none, .p (.mv (.tmp 0)), []⟩, ⟨1, (some 7), none, .p (.lenS false (.tmp 6)), []⟩, ⟨2, (some 8), none, .p (.mv (.const (.int .i64 0))), []⟩] 3 [0, 1, 7, 8]) (.block 0 (.loop (.seq (.ops [⟨0, (some 9), none, .p (.bin .lss (.tmp 8) (.tmp 7)), []⟩] 1 [0, 1, 7, 8, 9]) (.seq (.cond (.tmp 9) (.skip) (.exit 0)) (.seq (.block 1 (.seq (.ops [⟨0, (some 10), none, .p (.mv (.tmp 8)), []⟩, ⟨1, (some 5), none, .p (.mv (.tmp 10)), []⟩] 2 [0, 1, 5, 7, 8]) (.seq (.ops [⟨0, (some 11), none, .p (.mv (.tmp 1)), []⟩, ⟨1, (some 12), none, .p (.mv (.tmp 0)), []⟩, ⟨2, (some 13), none, .p (.mv (.tmp 5)), []⟩, ⟨3, (some 14), none, .p (.idx 3 (.tmp 12) (.tmp 13)), []⟩, ⟨4, (some 15), none, .r (.load true 3 (.tmp 14)), []⟩, ⟨5, (some 16), none, .e (.callv true (.tmp 11) [.tmp 15]), []⟩] 6 [0, 1, 5, 7, 8, 16]) (.cond (.tmp 16) (.seq (.ops [⟨0, (some 17), none, .p (.mv (.tmp 5)), []⟩, ⟨1, (some 4), none, .p (.mv (.tmp 17)), []⟩] 2 [4]) (.ret)) (.skip))))) (.ops [⟨0, (some 18), none, .p (.bin .add (.tmp 8) (.const (.int .i64 1))), []⟩, ⟨1, (some 8), none, .p (.mv (.tmp 18)), []⟩] 2 [0, 1, 7, 8]))))))) (.seq (.ops [⟨0, (some 4), none, .p (.mv (.const (.int .i64 (-1)))), []⟩] 1 [4]) (.ret))) }
def N45 : Notes := { note := fun _ => none, keep := fun | 7 => [4] | 6 => [0, 1, 7, 8] | 5 => [4] | 4 => [0, 1, 5, 7, 8, 16] | 3 => [0, 1, 5, 7, 8] | 2 => [0, 1, 7, 8, 9] | 1 => [0, 1, 7, 8] | 0 => [0, 1] | _ => [] }
theorem A45_ok : cFn Try.prog qf N45 Try.f45 = some A45 := by kernel_rfl
inductive W45 where
  | mk (x0 x1 x4 x5 x7 x8 x9 x16 : AV)
inductive V45 where
  | mk (x0 x1 : AV)
def mo45 : W45 → Fr := fun ⟨x0, x1, x4, x5, x7, x8, x9, x16⟩ => [x0, x1, .top, .top, x4, x5, .top, x7, x8, x9, .top, .top, .top, .top, .top, .top, x16, .top, .top]
def mi45 : V45 → Fr := fun ⟨x0, x1⟩ => [x0, x1, .tup [], .tup [], .tup [], .tup [], .tup [], .tup [], .tup [], .tup [], .tup [], .tup [], .tup [], .tup [], .tup [], .tup [], .tup [], .tup [], .tup []]
noncomputable def S45r0 {R : Type} (call : Nat → List AV → M AV) : V45 → Nat → AS → (W45 → AS → Option R) → Option R := @V45.rec (fun _ => Nat → AS → (W45 → AS → Option R) → Option R) fun x0 x1 base s k =>
  k (.mk x0 x1 .top .top .top .top .top .top) s
noncomputable def S45r1 {R : Type} (call : Nat → List AV → M AV) : W45 → Nat → AS → (W45 → AS → Option R) → Option R := @W45.rec (fun _ => Nat → AS → (W45 → AS → Option R) → Option R) fun x0 x1 x4 x5 x7 x8 x9 x16 base s k =>
  bndP (lenAQ false x0) fun y0 =>
  k (.mk x0 x1 .top .top y0 ((.int .i64 0) : AV) .top .top) s
noncomputable def S45r2 {R : Type} (call : Nat → List AV → M AV) : W45 → Nat → AS → (W45 → AS → Option R) → Option R := @W45.rec (fun _ => Nat → AS → (W45 → AS → Option R) → Option R) fun x0 x1 x4 x5 x7 x8 x9 x16 base s k =>
  bndP (binQ .lss x8 x7) fun y0 =>
  k (.mk x0 x1 .top .top x7 x8 y0 .top) s
noncomputable def S45r3 {R : Type} (call : Nat → List AV → M AV) : W45 → Nat → AS → (W45 → AS → Option R) → Option R := @W45.rec (fun _ => Nat → AS → (W45 → AS → Option R) → Option R) fun x0 x1 x4 x5 x7 x8 x9 x16 base s k =>
  k (.mk x0 x1 .top x8 x7 x8 .top .top) s
noncomputable def S45r4 {R : Type} (call : Nat → List AV → M AV) : W45 → Nat → AS → (W45 → AS → Option R) → Option R := @W45.rec (fun _ => Nat → AS → (W45 → AS → Option R) → Option R) fun x0 x1 x4 x5 x7 x8 x9 x16 base s k =>
  bndP (idxQ 3 x0 x5) fun y0 =>
  bndP (loadQ true 3 y0 s.h) fun y1 =>
  bndO (callvQ call true x1 [y1] s) fun y2 s =>
  k (.mk x0 x1 .top x5 x7 x8 .top y2) s
noncomputable def S45r5 {R : Type} (call : Nat → List AV → M AV) : W45 → Nat → AS → (W45 → AS → Option R) → Option R := @W45.rec (fun _ => Nat → AS → (W45 → AS → Option R) → Option R) fun x0 x1 x4 x5 x7 x8 x9 x16 base s k =>
  k (.mk .top .top x5 .top .top .top .top .top) s
noncomputable def S45r6 {R : Type} (call : Nat → List AV → M AV) : W45 → Nat → AS → (W45 → AS → Option R) → Option R := @W45.rec (fun _ => Nat → AS → (W45 → AS → Option R) → Option R) fun x0 x1 x4 x5 x7 x8 x9 x16 base s k =>
  bndP (binQ .add x8 ((.int .i64 1) : AV)) fun y0 =>
  k (.mk x0 x1 .top .top x7 y0 .top .top) s
noncomputable def S45b7 {R : Type} (call : Nat → List AV → M AV) (fuel : Nat) : SC W45 W45 R := sSeq (sReg 1 (S45r2 call)) (sSeq (sCond (@W45.rec (fun _ => AV) fun _ _ _ _ _ _ x9 _ => x9) (sSkip) (sExit 0)) (sSeq (sBlock 1 (sSeq (sReg 2 (S45r3 call)) (sSeq (sReg 6 (S45r4 call)) (sCond (@W45.rec (fun _ => AV) fun _ _ _ _ _ _ _ x16 => x16) (sSeq (sReg 2 (S45r5 call)) (sRet)) (sSkip))))) (sReg 2 (S45r6 call))))
noncomputable def S45r8 {R : Type} (call : Nat → List AV → M AV) : W45 → Nat → AS → (W45 → AS → Option R) → Option R := @W45.rec (fun _ => Nat → AS → (W45 → AS → Option R) → Option R) fun x0 x1 x4 x5 x7 x8 x9 x16 base s k =>
  k (.mk .top .top ((.int .i64 (-1)) : AV) .top .top .top .top .top) s
noncomputable def S45c {R : Type} (call : Nat → List AV → M AV) (fuel : Nat) : SC V45 W45 R := sSeq (sReg 1 (S45r0 call)) (sSeq (sSeq (sReg 3 (S45r1 call)) (sBlock 0 (sLoop fuel (S45b7 call fuel)))) (sSeq (sReg 1 (S45r8 call)) (sRet)))
noncomputable def S45e : Ex → W45 → AS → Option (AV × AS) := fun e w s => (@W45.rec (fun _ => Option (AV × AS)) fun _ _ x4 _ _ _ _ _ => @Ex.rec (fun _ => Option (AV × AS)) (some (x4, s)) (fun _ => none) (some (x4, s)) e) w
noncomputable def S45 (call : Nat → List AV → M AV) (fuel : Nat) (args : List AV) (s : AS) : Option (AV × AS) := match args with
  | [x0, x1] => S45c call fuel (.mk x0 x1) s S45e
  | _ => none
theorem S45_sim (call : Nat → List AV → M AV) (fuel : Nat) : Sim (R := AV × AS) call fuel mi45 mo45 A45.code (S45c call fuel) := by
  refine sim_seq (sim_reg (fun ⟨x0, x1⟩ _ _ _ => by kernel_rfl)) (sim_seq (sim_seq (sim_reg (fun ⟨x0, x1, x4, x5, x7, x8, x9, x16⟩ _ _ _ => by kernel_rfl)) (sim_block (sim_loop (sim_seq (sim_reg (fun ⟨x0, x1, x4, x5, x7, x8, x9, x16⟩ _ _ _ => by kernel_rfl)) (sim_seq (sim_cond (fun ⟨x0, x1, x4, x5, x7, x8, x9, x16⟩ => by kernel_rfl) (sim_skip) (sim_exit)) (sim_seq (sim_block (sim_seq (sim_reg (fun ⟨x0, x1, x4, x5, x7, x8, x9, x16⟩ _ _ _ => by kernel_rfl)) (sim_seq (sim_reg (fun ⟨x0, x1, x4, x5, x7, x8, x9, x16⟩ _ _ _ => by kernel_rfl)) (sim_cond (fun ⟨x0, x1, x4, x5, x7, x8, x9, x16⟩ => by kernel_rfl) (sim_seq (sim_reg (fun ⟨x0, x1, x4, x5, x7, x8, x9, x16⟩ _ _ _ => by kernel_rfl)) (sim_ret)) (sim_skip))))) (sim_reg (fun ⟨x0, x1, x4, x5, x7, x8, x9, x16⟩ _ _ _ => by kernel_rfl)))))))) (sim_seq (sim_reg (fun ⟨x0, x1, x4, x5, x7, x8, x9, x16⟩ _ _ _ => by kernel_rfl)) (sim_ret)))
theorem S45_ok (call : Nat → List AV → M AV) (fuel : Nat) (args : List AV) (s : AS) : afn call fuel A45 args s = S45 call fuel args s := by
  rcases args with _ | ⟨x0, _ | ⟨x1, _ | ⟨x2, r⟩⟩⟩
  · kernel_rfl
  · kernel_rfl
  · exact (afn_sim (S45_sim call fuel) (v := (.mk x0 x1)) (e2 := S45e) (by kernel_rfl) (by kernel_rfl) (fun e w s => by cases w; cases e <;> kernel_rfl)).trans (by kernel_rfl)
  · kernel_rfl
def A46 : AFn := { nargs := 2, ntmps := 9, res := [.tmp 3], code := .seq (.ops [⟨0, (some 2), none, .l (.box (.tmp 0)), []⟩, ⟨1, (some 3), none, .p (.mv (.const (.bool false))), []⟩] 2 [1, 2]) (.seq (.ops [⟨0, (some 4), none, .p (.fld 0 (.tmp 2)), []⟩, ⟨1, (some 5), none, .r (.load false 1 (.tmp 4)), []⟩, ⟨2, (some 6), none, .p (.fld 2 (.tmp 1)), []⟩, ⟨3, (some 7), none, .r (.load false 1 (.tmp 6)), []⟩, ⟨4, (some 8), none, .p (.bin .eql (.tmp 5) (.tmp 7)), []⟩, ⟨5, (some 3), none, .p (.mv (.tmp 8)), []⟩] 6 [3]) (.ret)) }
def N46 : Notes := { note := fun _ => none, keep := fun | 1 => [3] | 0 => [1, 2] | _ => [] }
theorem A46_ok : cFn Try.prog qf N46 Try.f46 = some A46 := by kernel_rfl
inductive W46 where
  | mk (x1 x2 x3 : AV)
inductive V46 where
  | mk (x0 x1 : AV)
def mo46 : W46 → Fr := fun ⟨x1, x2, x3⟩ => [.top, x1, x2, x3, .top, .top, .top, .top, .top]
def mi46 : V46 → Fr := fun ⟨x0, x1⟩ => [x0, x1, .tup [], .tup [], .tup [], .tup [], .tup [], .tup [], .tup []]
noncomputable def S46r0 {R : Type} (call : Nat → List AV → M AV) : V46 → Nat → AS → (W46 → AS → Option R) → Option R := @V46.rec (fun _ => Nat → AS → (W46 → AS → Option R) → Option R) fun x0 x1 base s k =>
  bndO (newQ (base + 0) (boxB x0 (base + 0)) s) fun y0 s =>
  k (.mk x1 y0 .top) s
noncomputable def S46r1 {R : Type} (call : Nat → List AV → M AV) : W46 → Nat → AS → (W46 → AS → Option R) → Option R := @W46.rec (fun _ => Nat → AS → (W46 → AS → Option R) → Option R) fun x1 x2 x3 base s k =>
  bndP (fldA 0 x2) fun y0 =>
  bndP (loadQ false 1 y0 s.h) fun y1 =>
  bndP (fldA 2 x1) fun y2 =>
  bndP (loadQ false 1 y2 s.h) fun y3 =>
  bndP (binQ .eql y1 y3) fun y4 =>
  k (.mk .top .top y4) s
noncomputable def S46c {R : Type} (call : Nat → List AV → M AV) (fuel : Nat) : SC V46 W46 R := sSeq (sReg 2 (S46r0 call)) (sSeq (sReg 6 (S46r1 call)) (sRet))
noncomputable def S46e : Ex → W46 → AS → Option (AV × AS) := fun e w s => (@W46.rec (fun _ => Option (AV × AS)) fun _ _ x3 => @Ex.rec (fun _ => Option (AV × AS)) (some (x3, s)) (fun _ => none) (some (x3, s)) e) w
noncomputable def S46 (call : Nat → List AV → M AV) (fuel : Nat) (args : List AV) (s : AS) : Option (AV × AS) := match args with
  | [x0, x1] => S46c call fuel (.mk x0 x1) s S46e
  | _ => none
theorem S46_sim (call : Nat → List AV → M AV) (fuel : Nat) : Sim (R := AV × AS) call fuel mi46 mo46 A46.code (S46c call fuel) := by
  refine sim_seq (sim_reg (fun ⟨x0, x1⟩ _ _ _ => by kernel_rfl)) (sim_seq (sim_reg (fun ⟨x1, x2, x3⟩ _ _ _ => by kernel_rfl)) (sim_ret))
theorem S46_ok (call : Nat → List AV → M AV) (fuel : Nat) (args : List AV) (s : AS) : afn call fuel A46 args s = S46 call fuel args s := by
  rcases args with _ | ⟨x0, _ | ⟨x1, _ | ⟨x2, r⟩⟩⟩
  · kernel_rfl
  · kernel_rfl
  · exact (afn_sim (S46_sim call fuel) (v := (.mk x0 x1)) (e2 := S46e) (by kernel_rfl) (by kernel_rfl) (fun e w s => by cases w; cases e <;> kernel_rfl)).trans (by kernel_rfl)
  · kernel_rfl
def A47 : AFn := { nargs := 2, ntmps := 9, res := [.tmp 4], code := .seq (.ops [⟨0, (some 3), none, .l (.box (.tmp 1)), []⟩, ⟨1, (some 4), none, .p (.mv (.const (.bool false))), []⟩] 2 [0, 3]) (.seq (.ops [⟨0, (some 5), none, .p (.mv (.tmp 0)), []⟩, ⟨1, (some 6), none, .r (.load true 3 (.tmp 3)), []⟩, ⟨2, (some 7), none, .e (.call true 78 [.tmp 5, .tmp 6]), []⟩, ⟨3, (some 8), none, .p (.bin .geq (.tmp 7) (.const (.int .i64 0))), []⟩, ⟨4, (some 4), none, .p (.mv (.tmp 8)), []⟩] 5 [4]) (.ret)) }
def N47 : Notes := { note := fun _ => none, keep := fun | 1 => [4] | 0 => [0, 3] | _ => [] }
theorem A47_ok : cFn Try.prog qf N47 Try.f47 = some A47 := by kernel_rfl
inductive W47 where
  | mk (x0 x3 x4 : AV)
inductive V47 where
  | mk (x0 x1 : AV)
def mo47 : W47 → Fr := fun ⟨x0, x3, x4⟩ => [x0, .top, .top, x3, x4, .top, .top, .top, .top]
def mi47 : V47 → Fr := fun ⟨x0, x1⟩ => [x0, x1, .tup [], .tup [], .tup [], .tup [], .tup [], .tup [], .tup []]
noncomputable def S47r0 {R : Type} (call : Nat → List AV → M AV) : V47 → Nat → AS → (W47 → AS → Option R) → Option R := @V47.rec (fun _ => Nat → AS → (W47 → AS → Option R) → Option R) fun x0 x1 base s k =>
  bndO (newQ (base + 0) (boxB x1 (base + 0)) s) fun y0 s =>
  k (.mk x0 y0 .top) s
noncomputable def S47r1 {R : Type} (call : Nat → List AV → M AV) : W47 → Nat → AS → (W47 → AS → Option R) → Option R := @W47.rec (fun _ => Nat → AS → (W47 → AS → Option R) → Option R) fun x0 x3 x4 base s k =>
  bndP (loadQ true 3 x3 s.h) fun y0 =>
  bndO (quietQ call 78 [x0, y0] s) fun y1 s =>
  bndP (binQ .geq y1 ((.int .i64 0) : AV)) fun y2 =>
  k (.mk .top .top y2) s
noncomputable def S47c {R : Type} (call : Nat → List AV → M AV) (fuel : Nat) : SC V47 W47 R := sSeq (sReg 2 (S47r0 call)) (sSeq (sReg 5 (S47r1 call)) (sRet))
noncomputable def S47e : Ex → W47 → AS → Option (AV × AS) := fun e w s => (@W47.rec (fun _ => Option (AV × AS)) fun _ _ x4 => @Ex.rec (fun _ => Option (AV × AS)) (some (x4, s)) (fun _ => none) (some (x4, s)) e) w
noncomputable def S47 (call : Nat → List AV → M AV) (fuel : Nat) (args : List AV) (s : AS) : Option (AV × AS) := match args with
  | [x0, x1] => S47c call fuel (.mk x0 x1) s S47e
  | _ => none
theorem S47_sim (call : Nat → List AV → M AV) (fuel : Nat) : Sim (R := AV × AS) call fuel mi47 mo47 A47.code (S47c call fuel) := by
  refine sim_seq (sim_reg (fun ⟨x0, x1⟩ _ _ _ => by kernel_rfl)) (sim_seq (sim_reg (fun ⟨x0, x3, x4⟩ _ _ _ => by kernel_rfl)) (sim_ret))
theorem S47_ok (call : Nat → List AV → M AV) (fuel : Nat) (args : List AV) (s : AS) : afn call fuel A47 args s = S47 call fuel args s := by
  rcases args with _ | ⟨x0, _ | ⟨x1, _ | ⟨x2, r⟩⟩⟩
  · kernel_rfl
  · kernel_rfl
  · exact (afn_sim (S47_sim call fuel) (v := (.mk x0 x1)) (e2 := S47e) (by kernel_rfl) (by kernel_rfl) (fun e w s => by cases w; cases e <;> kernel_rfl)).trans (by kernel_rfl)
  · kernel_rfl
def A66 : AFn := { nargs := 2, ntmps := 60, res := [.tmp 4], code := .seq (.ops [⟨0, (some 4), none, .p (.mv (.const (.int .i64 0))), []⟩] 1 [0, 1]) (.seq (.seq (.ops [⟨0, (some 11), none, .p (.mv (.tmp 1)), []⟩, ⟨1, (some 12), none, .p (.lenS false (.tmp 11)), []⟩, ⟨2, (some 13), none, .p (.mv (.const (.int .i64 0))), []⟩] 3 [0, 11, 12, 13]) (.block 0 (.loop (.seq (.ops [⟨0, (some 14), none, .p (.bin .lss (.tmp 13) (.tmp 12)), []⟩] 1 [0, 11, 12, 13, 14]) (.seq (.cond (.tmp 14) (.skip) (.exit 0)) (.seq (.block 1 (.seq (.ops [⟨0, (some 15), none, .p (.idx 2 (.tmp 11) (.tmp 13)), []⟩, ⟨1, (some 16), none, .r (.load true 2 (.tmp 15)), []⟩, ⟨2, (some 6), none, .l (.alloc [.str [], .nils]), []⟩, ⟨3, none, none, .e (.store (.tmp 6) (.tmp 16) 2), []⟩] 4 [0, 6, 11, 12, 13]) (.seq (.seq (.ops [⟨0, (some 17), none, .p (.mv (.tmp 0)), []⟩, ⟨1, (some 18), none, .p (.nilchk (.tmp 17)), []⟩, ⟨2, (some 19), none, .p (.fld 0 (.tmp 18)), []⟩, ⟨4, (some 21), none, .p (.fld 0 (.tmp 6)), []⟩, ⟨3, (some 20), none, .r (.load false 1 (.tmp 19)), []⟩, ⟨5, (some 22), none, .r (.load false 1 (.tmp 21)), []⟩, ⟨6, (some 23), none, .r (.lookup (.int .i64 0) false [] (.tmp 20) (.tmp 22)), []⟩, ⟨7, (some 24), none, .p (.bin .gtr (.tmp 23) (.const (.int .i64 0))), []⟩] 8 [0, 6, 11, 12, 13, 24]) (.cond (.tmp 24) (.seq (.ops [⟨0, (some 4), none, .p (.mv (.const (.int .i64 11))), []⟩] 1 [4]) (.ret)) (.skip))) (.seq (.ops [⟨0, (some 25), none, .p (.mv (.tmp 0)), []⟩, ⟨1, (some 26), none, .p (.nilchk (.tmp 25)), []⟩, ⟨2, (some 27), none, .p (.fld 0 (.tmp 26)), []⟩, ⟨4, (some 29), none, .p (.fld 0 (.tmp 6)), []⟩, ⟨3, (some 28), none, .r (.load false 1 (.tmp 27)), []⟩, ⟨5, (some 30), none, .r (.load false 1 (.tmp 29)), []⟩, ⟨6, none, none, .e (.mapset [] (.tmp 28) (.tmp 30) (.const (.int .i64 1))), []⟩] 7 [0, 6, 11, 12, 13]) (.seq (.ops [⟨0, (some 31), none, .p (.fld 1 (.tmp 6)), []⟩, ⟨1, (some 32), none, .r (.load false 1 (.tmp 31)), []⟩, ⟨2, (some 33), none, .p (.lenS false (.tmp 32)), []⟩, ⟨3, (some 34), none, .p (.mv (.const (.int .i64 0))), []⟩] 4 [0, 6, 11, 12, 13, 32, 33, 34]) (.block 2 (.loop (.seq (.ops [⟨0, (some 35), none, .p (.bin .lss (.tmp 34) (.tmp 33)), []⟩] 1 [0, 6, 11, 12, 13, 32, 33, 34, 35]) (.seq (.cond (.tmp 35) (.skip) (.exit 2)) (.seq (.block 3 (.seq (.ops [⟨0, (some 36), none, .p (.idx 3 (.tmp 32) (.tmp 34)), []⟩, ⟨1, (some 37), none, .r (.load true 3 (.tmp 36)), []⟩, ⟨2, (some 8), none, .l (.alloc [.str [], .nils, .nils]), []⟩, ⟨3, none, none, .e (.store (.tmp 8) (.tmp 37) 3), []⟩] 4 [0, 6, 8, 11, 12, 13, 32, 33, 34]) (.seq (.seq (.ops [⟨0, (some 39), none, .p (.mv (.tmp 0)), []⟩, ⟨1, (some 40), none, .p (.fld 0 (.tmp 6)), []⟩, ⟨2, (some 41), none, .r (.load false 1 (.tmp 40)), []⟩, ⟨3, (some 42), none, .p (.fld 0 (.tmp 8)), []⟩, ⟨4, (some 43), none, .r (.load false 1 (.tmp 42)), []⟩, ⟨5, (some 44), none, .e (.call true 36 [.tmp 39, .tmp 41, .tmp 43]), []⟩, ⟨6, (some 38), none, .p (.mv (.tmp 44)), []⟩, ⟨7, (some 45), none, .p (.extract (.tmp 38) 0), []⟩, ⟨8, (some 46), none, .p (.extract (.tmp 38) 1), []⟩, ⟨9, (some 9), none, .l (.alloc [.str [], .nils, .nils]), []⟩, ⟨10, none, none, .e (.store (.tmp 9) (.tmp 45) 3), []⟩, ⟨11, (some 10), none, .p (.mv (.tmp 46)), []⟩] 12 [0, 6, 8, 10, 11, 12, 13, 32, 33, 34]) (.seq (.ops [⟨0, (some 47), none, .p (.mv (.tmp 10)), []⟩] 1 [0, 6, 8, 11, 12, 13, 32, 33, 34, 47]) (.cond (.tmp 47) (.seq (.ops [⟨0, (some 4), none, .p (.mv (.const (.int .i64 11))), []⟩] 1 [4]) (.ret)) (.skip)))) (.ops [⟨0, (some 48), none, .p (.mv (.tmp 0)), []⟩, ⟨1, (some 49), none, .p (.nilchk (.tmp 48)), []⟩, ⟨2, (some 50), none, .p (.fld 1 (.tmp 49)), []⟩, ⟨4, (some 52), none, .p (.fld 0 (.tmp 6)), []⟩, ⟨6, (some 54), none, .p (.fld 0 (.tmp 8)), []⟩, ⟨3, (some 51), none, .r (.load false 1 (.tmp 50)), []⟩, ⟨5, (some 53), none, .r (.load false 1 (.tmp 52)), []⟩, ⟨7, (some 55), none, .r (.load false 1 (.tmp 54)), []⟩, ⟨8, (some 56), none, .p (.build [.str [], .str []] [(0, 1, .tmp 53), (1, 1, .tmp 55)]), []⟩, ⟨9, (some 57), none, .r (.load true 3 (.tmp 8)), []⟩, ⟨10, none, none, .e (.mapset [true, true] (.tmp 51) (.tmp 56) (.tmp 57)), []⟩] 11 [0, 6, 11, 12, 13, 32, 33, 34])))) (.ops [⟨0, (some 58), none, .p (.bin .add (.tmp 34) (.const (.int .i64 1))), []⟩, ⟨1, (some 34), none, .p (.mv (.tmp 58)), []⟩] 2 [0, 6, 11, 12, 13, 32, 33, 34]))))))))))) (.ops [⟨0, (some 59), none, .p (.bin .add (.tmp 13) (.const (.int .i64 1))), []⟩, ⟨1, (some 13), none, .p (.mv (.tmp 59)), []⟩] 2 [0, 11, 12, 13]))))))) (.seq (.ops [⟨0, (some 4), none, .p (.mv (.const (.int .i64 0))), []⟩] 1 [4]) (.ret))) }
def N66 : Notes := { note := fun | 4 => some ⟨[0, 1, 2, 4, 3, 5, 6, 7], [0, 1, 3, 7, 0, 16, 63, 127], [[], [], [], [], [], [], [], []]⟩ | 6 => some ⟨[0, 1, 2, 4, 3, 5, 6], [0, 1, 3, 7, 0, 16, 63], [[], [], [], [], [], [], []]⟩ | 13 => some ⟨[0, 1, 2, 4, 6, 3, 5, 7, 8, 9, 10], [0, 1, 3, 7, 0, 16, 0, 64, 240, 0, 1023], [[], [], [], [], [], [], [], [], [], [], []]⟩ | _ => none, keep := fun | 16 => [4] | 15 => [0, 11, 12, 13] | 14 => [0, 6, 11, 12, 13, 32, 33, 34] | 13 => [0, 6, 11, 12, 13, 32, 33, 34] | 12 => [4] | 11 => [0, 6, 8, 11, 12, 13, 32, 33, 34, 47] | 10 => [0, 6, 8, 10, 11, 12, 13, 32, 33, 34] | 9 => [0, 6, 8, 11, 12, 13, 32, 33, 34] | 8 => [0, 6, 11, 12, 13, 32, 33, 34, 35] | 7 => [0, 6, 11, 12, 13, 32, 33, 34] | 6 => [0, 6, 11, 12, 13] | 5 => [4] | 4 => [0, 6, 11, 12, 13, 24] | 3 => [0, 6, 11, 12, 13] | 2 => [0, 11, 12, 13, 14] | 1 => [0, 11, 12, 13] | 0 => [0, 1] | _ => [] }
theorem A66_ok : cFn Try.prog qf N66 Try.f66 = some A66 := by kernel_rfl
inductive W66 where
  | mk (x0 x1 x4 x6 x8 x10 x11 x12 x13 x14 x24 x32 x33 x34 x35 x47 : AV)
inductive V66 where
  | mk (x0 x1 : AV)
def mo66 : W66 → Fr := fun ⟨x0, x1, x4, x6, x8, x10, x11, x12, x13, x14, x24, x32, x33, x34, x35, x47⟩ => [x0, x1, .top, .top, x4, .top, x6, .top, x8, .top, x10, x11, x12, x13, x14, .top, .top, .top, .top, .top, .top, .top, .top, .top, x24, .top, .top, .top, .top, .top, .top, .top, x32, x33, x34, x35, .top, .top, .top, .top, .top, .top, .top, .top, .top, .top, .top, x47, .top, .top, .top, .top, .top, .top, .top, .top, .top, .top, .top, .top]
def mi66 : V66 → Fr := fun ⟨x0, x1⟩ => [x0, x1, .tup [], .tup [], .tup [], .tup [], .tup [], .tup [], .tup [], .tup [], .tup [], .tup [], .tup [], .tup [], .tup [], .tup [], .tup [], .tup [], .tup [], .tup [], .tup [], .tup [], .tup [], .tup [], .tup [], .tup [], .tup [], .tup [], .tup [], .tup [], .tup [], .tup [], .tup [], .tup [], .tup [], .tup [], .tup [], .tup [], .tup [], .tup [], .tup [], .tup [], .tup [], .tup [], .tup [], .tup [], .tup [], .tup [], .tup [], .tup [], .tup [], .tup [], .tup [], .tup [], .tup [], .tup [], .tup [], .tup [], .tup [], .tup []]
noncomputable def S66r0 {R : Type} (call : Nat → List AV → M AV) : V66 → Nat → AS → (W66 → AS → Option R) → Option R := @V66.rec (fun _ => Nat → AS → (W66 → AS → Option R) → Option R) fun x0 x1 base s k =>
  k (.mk x0 x1 .top .top .top .top .top .top .top .top .top .top .top .top .top .top) s
noncomputable def S66r1 {R : Type} (call : Nat → List AV → M AV) : W66 → Nat → AS → (W66 → AS → Option R) → Option R := @W66.rec (fun _ => Nat → AS → (W66 → AS → Option R) → Option R) fun x0 x1 x4 x6 x8 x10 x11 x12 x13 x14 x24 x32 x33 x34 x35 x47 base s k =>
  bndP (lenAQ false x1) fun y0 =>
  k (.mk x0 .top .top .top .top .top x1 y0 ((.int .i64 0) : AV) .top .top .top .top .top .top .top) s
noncomputable def S66r2 {R : Type} (call : Nat → List AV → M AV) : W66 → Nat → AS → (W66 → AS → Option R) → Option R := @W66.rec (fun _ => Nat → AS → (W66 → AS → Option R) → Option R) fun x0 x1 x4 x6 x8 x10 x11 x12 x13 x14 x24 x32 x33 x34 x35 x47 base s k =>
  bndP (binQ .lss x13 x12) fun y0 =>
  k (.mk x0 .top .top .top .top .top x11 x12 x13 y0 .top .top .top .top .top .top) s
noncomputable def S66r3 {R : Type} (call : Nat → List AV → M AV) : W66 → Nat → AS → (W66 → AS → Option R) → Option R := @W66.rec (fun _ => Nat → AS → (W66 → AS → Option R) → Option R) fun x0 x1 x4 x6 x8 x10 x11 x12 x13 x14 x24 x32 x33 x34 x35 x47 base s k =>
  bndP (idxQ 2 x11 x13) fun y0 =>
  bndP (loadQ true 2 y0 s.h) fun y1 =>
  bndO (newQ (base + 2) (allocB [(.str []), .nils] (base + 2)) s) fun y2 s =>
  bndO (storeQ y2 y1 2 s) fun _ s =>
  k (.mk x0 .top .top y2 .top .top x11 x12 x13 .top .top .top .top .top .top .top) s
noncomputable def S66r4 {R : Type} (call : Nat → List AV → M AV) : W66 → Nat → AS → (W66 → AS → Option R) → Option R := @W66.rec (fun _ => Nat → AS → (W66 → AS → Option R) → Option R) fun x0 x1 x4 x6 x8 x10 x11 x12 x13 x14 x24 x32 x33 x34 x35 x47 base s k =>
  bndP (nilchkA x0) fun y0 =>
  bndP (fldA 0 y0) fun y1 =>
  bndP (fldA 0 x6) fun y2 =>
  bndP (loadQ false 1 y1 s.h) fun y3 =>
  bndP (loadQ false 1 y2 s.h) fun y4 =>
  bndP (lookupA (.int .i64 0) false [] y3 y4 s.h) fun y5 =>
  bndP (binQ .gtr y5 ((.int .i64 0) : AV)) fun y6 =>
  k (.mk x0 .top .top x6 .top .top x11 x12 x13 .top y6 .top .top .top .top .top) s
noncomputable def S66r5 {R : Type} (call : Nat → List AV → M AV) : W66 → Nat → AS → (W66 → AS → Option R) → Option R := @W66.rec (fun _ => Nat → AS → (W66 → AS → Option R) → Option R) fun x0 x1 x4 x6 x8 x10 x11 x12 x13 x14 x24 x32 x33 x34 x35 x47 base s k =>
  k (.mk .top .top ((.int .i64 11) : AV) .top .top .top .top .top .top .top .top .top .top .top .top .top) s
noncomputable def S66r6 {R : Type} (call : Nat → List AV → M AV) : W66 → Nat → AS → (W66 → AS → Option R) → Option R := @W66.rec (fun _ => Nat → AS → (W66 → AS → Option R) → Option R) fun x0 x1 x4 x6 x8 x10 x11 x12 x13 x14 x24 x32 x33 x34 x35 x47 base s k =>
  bndP (nilchkA x0) fun y0 =>
  bndP (fldA 0 y0) fun y1 =>
  bndP (fldA 0 x6) fun y2 =>
  bndP (loadQ false 1 y1 s.h) fun y3 =>
  bndP (loadQ false 1 y2 s.h) fun y4 =>
  bndO (mapsetA [] y3 y4 ((.int .i64 1) : AV) s) fun _ s =>
  k (.mk x0 .top .top x6 .top .top x11 x12 x13 .top .top .top .top .top .top .top) s
noncomputable def S66r7 {R : Type} (call : Nat → List AV → M AV) : W66 → Nat → AS → (W66 → AS → Option R) → Option R := @W66.rec (fun _ => Nat → AS → (W66 → AS → Option R) → Option R) fun x0 x1 x4 x6 x8 x10 x11 x12 x13 x14 x24 x32 x33 x34 x35 x47 base s k =>
  bndP (fldA 1 x6) fun y0 =>
  bndP (loadQ false 1 y0 s.h) fun y1 =>
  bndP (lenAQ false y1) fun y2 =>
  k (.mk x0 .top .top x6 .top .top x11 x12 x13 .top .top y1 y2 ((.int .i64 0) : AV) .top .top) s
noncomputable def S66r8 {R : Type} (call : Nat → List AV → M AV) : W66 → Nat → AS → (W66 → AS → Option R) → Option R := @W66.rec (fun _ => Nat → AS → (W66 → AS → Option R) → Option R) fun x0 x1 x4 x6 x8 x10 x11 x12 x13 x14 x24 x32 x33 x34 x35 x47 base s k =>
  bndP (binQ .lss x34 x33) fun y0 =>
  k (.mk x0 .top .top x6 .top .top x11 x12 x13 .top .top x32 x33 x34 y0 .top) s
noncomputable def S66r9 {R : Type} (call : Nat → List AV → M AV) : W66 → Nat → AS → (W66 → AS → Option R) → Option R := @W66.rec (fun _ => Nat → AS → (W66 → AS → Option R) → Option R) fun x0 x1 x4 x6 x8 x10 x11 x12 x13 x14 x24 x32 x33 x34 x35 x47 base s k =>
  bndP (idxQ 3 x32 x34) fun y0 =>
  bndP (loadQ true 3 y0 s.h) fun y1 =>
  bndO (newQ (base + 2) (allocB [(.str []), .nils, .nils] (base + 2)) s) fun y2 s =>
  bndO (storeQ y2 y1 3 s) fun _ s =>
  k (.mk x0 .top .top x6 y2 .top x11 x12 x13 .top .top x32 x33 x34 .top .top) s
noncomputable def S66r10 {R : Type} (call : Nat → List AV → M AV) : W66 → Nat → AS → (W66 → AS → Option R) → Option R := @W66.rec (fun _ => Nat → AS → (W66 → AS → Option R) → Option R) fun x0 x1 x4 x6 x8 x10 x11 x12 x13 x14 x24 x32 x33 x34 x35 x47 base s k =>
  bndP (fldA 0 x6) fun y0 =>
  bndP (loadQ false 1 y0 s.h) fun y1 =>
  bndP (fldA 0 x8) fun y2 =>
  bndP (loadQ false 1 y2 s.h) fun y3 =>
  bndO (quietQ call 36 [x0, y1, y3] s) fun y4 s =>
  bndP (extrQ y4 0) fun y5 =>
  bndP (extrQ y4 1) fun y6 =>
  bndO (newQ (base + 9) (allocB [(.str []), .nils, .nils] (base + 9)) s) fun y7 s =>
  bndO (storeQ y7 y5 3 s) fun _ s =>
  k (.mk x0 .top .top x6 x8 y6 x11 x12 x13 .top .top x32 x33 x34 .top .top) s
noncomputable def S66r11 {R : Type} (call : Nat → List AV → M AV) : W66 → Nat → AS → (W66 → AS → Option R) → Option R := @W66.rec (fun _ => Nat → AS → (W66 → AS → Option R) → Option R) fun x0 x1 x4 x6 x8 x10 x11 x12 x13 x14 x24 x32 x33 x34 x35 x47 base s k =>
  k (.mk x0 .top .top x6 x8 .top x11 x12 x13 .top .top x32 x33 x34 .top x10) s
noncomputable def S66r12 {R : Type} (call : Nat → List AV → M AV) : W66 → Nat → AS → (W66 → AS → Option R) → Option R := @W66.rec (fun _ => Nat → AS → (W66 → AS → Option R) → Option R) fun x0 x1 x4 x6 x8 x10 x11 x12 x13 x14 x24 x32 x33 x34 x35 x47 base s k =>
  k (.mk .top .top ((.int .i64 11) : AV) .top .top .top .top .top .top .top .top .top .top .top .top .top) s
noncomputable def S66r13 {R : Type} (call : Nat → List AV → M AV) : W66 → Nat → AS → (W66 → AS → Option R) → Option R := @W66.rec (fun _ => Nat → AS → (W66 → AS → Option R) → Option R) fun x0 x1 x4 x6 x8 x10 x11 x12 x13 x14 x24 x32 x33 x34 x35 x47 base s k =>
  bndP (nilchkA x0) fun y0 =>
  bndP (fldA 1 y0) fun y1 =>
  bndP (fldA 0 x6) fun y2 =>
  bndP (fldA 0 x8) fun y3 =>
  bndP (loadQ false 1 y1 s.h) fun y4 =>
  bndP (loadQ false 1 y2 s.h) fun y5 =>
  bndP (loadQ false 1 y3 s.h) fun y6 =>
  bndP (buildA [(.str []), (.str [])] [(0, 1, y5), (1, 1, y6)]) fun y7 =>
  bndP (loadQ true 3 x8 s.h) fun y8 =>
  bndO (mapsetA [true, true] y4 y7 y8 s) fun _ s =>
  k (.mk x0 .top .top x6 .top .top x11 x12 x13 .top .top x32 x33 x34 .top .top) s
noncomputable def S66r14 {R : Type} (call : Nat → List AV → M AV) : W66 → Nat → AS → (W66 → AS → Option R) → Option R := @W66.rec (fun _ => Nat → AS → (W66 → AS → Option R) → Option R) fun x0 x1 x4 x6 x8 x10 x11 x12 x13 x14 x24 x32 x33 x34 x35 x47 base s k =>
  bndP (binQ .add x34 ((.int .i64 1) : AV)) fun y0 =>
  k (.mk x0 .top .top x6 .top .top x11 x12 x13 .top .top x32 x33 y0 .top .top) s
noncomputable def S66b15 {R : Type} (call : Nat → List AV → M AV) (fuel : Nat) : SC W66 W66 R := sSeq (sReg 1 (S66r8 call)) (sSeq (sCond (@W66.rec (fun _ => AV) fun _ _ _ _ _ _ _ _ _ _ _ _ _ _ x35 _ => x35) (sSkip) (sExit 2)) (sSeq (sBlock 3 (sSeq (sReg 4 (S66r9 call)) (sSeq (sSeq (sReg 12 (S66r10 call)) (sSeq (sReg 1 (S66r11 call)) (sCond (@W66.rec (fun _ => AV) fun _ _ _ _ _ _ _ _ _ _ _ _ _ _ _ x47 => x47) (sSeq (sReg 1 (S66r12 call)) (sRet)) (sSkip)))) (sReg 11 (S66r13 call))))) (sReg 2 (S66r14 call))))
noncomputable def S66r16 {R : Type} (call : Nat → List AV → M AV) : W66 → Nat → AS → (W66 → AS → Option R) → Option R := @W66.rec (fun _ => Nat → AS → (W66 → AS → Option R) → Option R) fun x0 x1 x4 x6 x8 x10 x11 x12 x13 x14 x24 x32 x33 x34 x35 x47 base s k =>
  bndP (binQ .add x13 ((.int .i64 1) : AV)) fun y0 =>
  k (.mk x0 .top .top .top .top .top x11 x12 y0 .top .top .top .top .top .top .top) s
noncomputable def S66b17 {R : Type} (call : Nat → List AV → M AV) (fuel : Nat) : SC W66 W66 R := sSeq (sReg 1 (S66r2 call)) (sSeq (sCond (@W66.rec (fun _ => AV) fun _ _ _ _ _ _ _ _ _ x14 _ _ _ _ _ _ => x14) (sSkip) (sExit 0)) (sSeq (sBlock 1 (sSeq (sReg 4 (S66r3 call)) (sSeq (sSeq (sReg 8 (S66r4 call)) (sCond (@W66.rec (fun _ => AV) fun _ _ _ _ _ _ _ _ _ _ x24 _ _ _ _ _ => x24) (sSeq (sReg 1 (S66r5 call)) (sRet)) (sSkip))) (sSeq (sReg 7 (S66r6 call)) (sSeq (sReg 4 (S66r7 call)) (sBlock 2 (sLoop fuel (S66b15 call fuel)))))))) (sReg 2 (S66r16 call))))
noncomputable def S66r18 {R : Type} (call : Nat → List AV → M AV) : W66 → Nat → AS → (W66 → AS → Option R) → Option R := @W66.rec (fun _ => Nat → AS → (W66 → AS → Option R) → Option R) fun x0 x1 x4 x6 x8 x10 x11 x12 x13 x14 x24 x32 x33 x34 x35 x47 base s k =>
  k (.mk .top .top ((.int .i64 0) : AV) .top .top .top .top .top .top .top .top .top .top .top .top .top) s
noncomputable def S66c {R : Type} (call : Nat → List AV → M AV) (fuel : Nat) : SC V66 W66 R := sSeq (sReg 1 (S66r0 call)) (sSeq (sSeq (sReg 3 (S66r1 call)) (sBlock 0 (sLoop fuel (S66b17 call fuel)))) (sSeq (sReg 1 (S66r18 call)) (sRet)))
noncomputable def S66e : Ex → W66 → AS → Option (AV × AS) := fun e w s => (@W66.rec (fun _ => Option (AV × AS)) fun _ _ x4 _ _ _ _ _ _ _ _ _ _ _ _ _ => @Ex.rec (fun _ => Option (AV × AS)) (some (x4, s)) (fun _ => none) (some (x4, s)) e) w
noncomputable def S66 (call : Nat → List AV → M AV) (fuel : Nat) (args : List AV) (s : AS) : Option (AV × AS) := match args with
  | [x0, x1] => S66c call fuel (.mk x0 x1) s S66e
  | _ => none
theorem S66_sim (call : Nat → List AV → M AV) (fuel : Nat) : Sim (R := AV × AS) call fuel mi66 mo66 A66.code (S66c call fuel) := by
  refine sim_seq (sim_reg (fun ⟨x0, x1⟩ _ _ _ => by kernel_rfl)) (sim_seq (sim_seq (sim_reg (fun ⟨x0, x1, x4, x6, x8, x10, x11, x12, x13, x14, x24, x32, x33, x34, x35, x47⟩ _ _ _ => by kernel_rfl)) (sim_block (sim_loop (sim_seq (sim_reg (fun ⟨x0, x1, x4, x6, x8, x10, x11, x12, x13, x14, x24, x32, x33, x34, x35, x47⟩ _ _ _ => by kernel_rfl)) (sim_seq (sim_cond (fun ⟨x0, x1, x4, x6, x8, x10, x11, x12, x13, x14, x24, x32, x33, x34, x35, x47⟩ => by kernel_rfl) (sim_skip) (sim_exit)) (sim_seq (sim_block (sim_seq (sim_reg (fun ⟨x0, x1, x4, x6, x8, x10, x11, x12, x13, x14, x24, x32, x33, x34, x35, x47⟩ _ _ _ => by kernel_rfl)) (sim_seq (sim_seq (sim_reg (fun ⟨x0, x1, x4, x6, x8, x10, x11, x12, x13, x14, x24, x32, x33, x34, x35, x47⟩ _ _ _ => by kernel_rfl)) (sim_cond (fun ⟨x0, x1, x4, x6, x8, x10, x11, x12, x13, x14, x24, x32, x33, x34, x35, x47⟩ => by kernel_rfl) (sim_seq (sim_reg (fun ⟨x0, x1, x4, x6, x8, x10, x11, x12, x13, x14, x24, x32, x33, x34, x35, x47⟩ _ _ _ => by kernel_rfl)) (sim_ret)) (sim_skip))) (sim_seq (sim_reg (fun ⟨x0, x1, x4, x6, x8, x10, x11, x12, x13, x14, x24, x32, x33, x34, x35, x47⟩ _ _ _ => by kernel_rfl)) (sim_seq (sim_reg (fun ⟨x0, x1, x4, x6, x8, x10, x11, x12, x13, x14, x24, x32, x33, x34, x35, x47⟩ _ _ _ => by kernel_rfl)) (sim_block (sim_loop (sim_seq (sim_reg (fun ⟨x0, x1, x4, x6, x8, x10, x11, x12, x13, x14, x24, x32, x33, x34, x35, x47⟩ _ _ _ => by kernel_rfl)) (sim_seq (sim_cond (fun ⟨x0, x1, x4, x6, x8, x10, x11, x12, x13, x14, x24, x32, x33, x34, x35, x47⟩ => by kernel_rfl) (sim_skip) (sim_exit)) (sim_seq (sim_block (sim_seq (sim_reg (fun ⟨x0, x1, x4, x6, x8, x10, x11, x12, x13, x14, x24, x32, x33, x34, x35, x47⟩ _ _ _ => by kernel_rfl)) (sim_seq (sim_seq (sim_reg (fun ⟨x0, x1, x4, x6, x8, x10, x11, x12, x13, x14, x24, x32, x33, x34, x35, x47⟩ _ _ _ => by kernel_rfl)) (sim_seq (sim_reg (fun ⟨x0, x1, x4, x6, x8, x10, x11, x12, x13, x14, x24, x32, x33, x34, x35, x47⟩ _ _ _ => by kernel_rfl)) (sim_cond (fun ⟨x0, x1, x4, x6, x8, x10, x11, x12, x13, x14, x24, x32, x33, x34, x35, x47⟩ => by kernel_rfl) (sim_seq (sim_reg (fun ⟨x0, x1, x4, x6, x8, x10, x11, x12, x13, x14, x24, x32, x33, x34, x35, x47⟩ _ _ _ => by kernel_rfl)) (sim_ret)) (sim_skip)))) (sim_reg (fun ⟨x0, x1, x4, x6, x8, x10, x11, x12, x13, x14, x24, x32, x33, x34, x35, x47⟩ _ _ _ => by kernel_rfl))))) (sim_reg (fun ⟨x0, x1, x4, x6, x8, x10, x11, x12, x13, x14, x24, x32, x33, x34, x35, x47⟩ _ _ _ => by kernel_rfl)))))))))))) (sim_reg (fun ⟨x0, x1, x4, x6, x8, x10, x11, x12, x13, x14, x24, x32, x33, x34, x35, x47⟩ _ _ _ => by kernel_rfl)))))))) (sim_seq (sim_reg (fun ⟨x0, x1, x4, x6, x8, x10, x11, x12, x13, x14, x24, x32, x33, x34, x35, x47⟩ _ _ _ => by kernel_rfl)) (sim_ret)))
theorem S66_ok (call : Nat → List AV → M AV) (fuel : Nat) (args : List AV) (s : AS) : afn call fuel A66 args s = S66 call fuel args s := by
  rcases args with _ | ⟨x0, _ | ⟨x1, _ | ⟨x2, r⟩⟩⟩
  · kernel_rfl
  · kernel_rfl
  · exact (afn_sim (S66_sim call fuel) (v := (.mk x0 x1)) (e2 := S66e) (by kernel_rfl) (by kernel_rfl) (fun e w s => by cases w; cases e <;> kernel_rfl)).trans (by kernel_rfl)
  · kernel_rfl
def A67 : AFn := { nargs := 3, ntmps := 83, res := [.tmp 6], code := .seq (.ops [⟨0, (some 5), none, .l (.box (.tmp 2)), []⟩, ⟨1, (some 6), none, .p (.mv (.const (.int .i64 0))), []⟩] 2 [0, 1, 5]) (.seq (.seq (.ops [⟨0, (some 16), none, .p (.fld 1 (.tmp 5)), []⟩, ⟨1, (some 17), none, .r (.load false 1 (.tmp 16)), []⟩, ⟨2, (some 18), none, .p (.lenS false (.tmp 17)), []⟩, ⟨3, (some 19), none, .p (.mv (.const (.int .i64 0))), []⟩] 4 [0, 1, 5, 17, 18, 19]) (.block 0 (.loop (.seq (.ops [⟨0, (some 20), none, .p (.bin .lss (.tmp 19) (.tmp 18)), []⟩] 1 [0, 1, 5, 17, 18, 19, 20]) (.seq (.cond (.tmp 20) (.skip) (.exit 0)) (.seq (.block 1 (.seq (.ops [⟨0, (some 21), none, .p (.idx 3 (.tmp 17) (.tmp 19)), []⟩, ⟨1, (some 22), none, .r (.load true 3 (.tmp 21)), []⟩, ⟨2, (some 8), none, .l (.alloc [.str [], .str [], .str []]), []⟩, ⟨3, none, none, .e (.store (.tmp 8) (.tmp 22) 3), []⟩] 4 [0, 1, 5, 8, 17, 18, 19]) (.seq (.ops [⟨0, (some 24), none, .p (.mv (.tmp 0)), []⟩, ⟨1, (some 25), none, .p (.fld 0 (.tmp 8)), []⟩, ⟨2, (some 26), none, .r (.load false 1 (.tmp 25)), []⟩, ⟨3, (some 27), none, .p (.fld 2 (.tmp 8)), []⟩, ⟨4, (some 28), none, .r (.load false 1 (.tmp 27)), []⟩, ⟨5, (some 29), none, .e (.call true 36 [.tmp 24, .tmp 26, .tmp 28]), []⟩, ⟨6, (some 23), none, .p (.mv (.tmp 29)), []⟩, ⟨7, (some 30), none, .p (.extract (.tmp 23) 0), []⟩, ⟨8, (some 31), none, .p (.extract (.tmp 23) 1), []⟩, ⟨9, (some 9), none, .l (.alloc [.str [], .nils, .nils]), []⟩, ⟨10, none, none, .e (.store (.tmp 9) (.tmp 30) 3), []⟩, ⟨11, (some 10), none, .p (.mv (.tmp 31)), []⟩] 12 [0, 1, 5, 8, 10, 17, 18, 19]) (.seq (.ops [⟨0, (some 32), none, .p (.mv (.tmp 0)), []⟩, ⟨1, (some 33), none, .p (.nilchk (.tmp 32)), []⟩, ⟨2, (some 34), none, .p (.fld 0 (.tmp 33)), []⟩, ⟨4, (some 36), none, .p (.fld 0 (.tmp 8)), []⟩, ⟨3, (some 35), none, .r (.load false 1 (.tmp 34)), []⟩, ⟨5, (some 37), none, .r (.load false 1 (.tmp 36)), []⟩, ⟨6, (some 38), none, .r (.lookup (.int .i64 0) false [] (.tmp 35) (.tmp 37)), []⟩, ⟨7, (some 39), none, .p (.bin .eql (.tmp 38) (.const (.int .i64 0))), []⟩, ⟨8, (some 40), none, .p (.mv (.tmp 39)), []⟩, ⟨9, (some 41), (some (40, false)), .p (.fld 2 (.tmp 8)), []⟩, ⟨10, (some 42), (some (40, false)), .r (.load false 1 (.tmp 41)), []⟩, ⟨11, (some 43), (some (40, false)), .p (.bin .neq (.tmp 42) (.const (.str []))), []⟩, ⟨12, (some 44), (some (40, false)), .p (.mv (.tmp 43)), []⟩, ⟨13, (some 45), (some (44, true)), .p (.mv (.tmp 10)), []⟩, ⟨14, (some 46), (some (44, true)), .p (.notb (.tmp 45)), []⟩, ⟨15, (some 47), (some (40, false)), .p (.pick (.tmp 44) (.tmp 46) (.const (.bool false))), []⟩, ⟨16, (some 48), none, .p (.pick (.tmp 40) (.const (.bool true)) (.tmp 47)), []⟩] 17 [0, 1, 5, 17, 18, 19, 48]) (.cond (.tmp 48) (.seq (.ops [⟨0, (some 6), none, .p (.mv (.const (.int .i64 12))), []⟩] 1 [6]) (.ret)) (.skip)))))) (.ops [⟨0, (some 49), none, .p (.bin .add (.tmp 19) (.const (.int .i64 1))), []⟩, ⟨1, (some 19), none, .p (.mv (.tmp 49)), []⟩] 2 [0, 1, 5, 17, 18, 19]))))))) (.seq (.seq (.ops [⟨0, (some 50), none, .p (.fld 2 (.tmp 5)), []⟩, ⟨1, (some 51), none, .r (.load false 1 (.tmp 50)), []⟩, ⟨2, (some 52), none, .p (.lenS false (.tmp 51)), []⟩, ⟨3, (some 53), none, .p (.mv (.const (.int .i64 0))), []⟩] 4 [0, 1, 51, 52, 53]) (.block 2 (.loop (.seq (.ops [⟨0, (some 54), none, .p (.bin .lss (.tmp 53) (.tmp 52)), []⟩] 1 [0, 1, 51, 52, 53, 54]) (.seq (.cond (.tmp 54) (.skip) (.exit 2)) (.seq (.block 3 (.seq (.ops [⟨0, (some 55), none, .p (.idx 3 (.tmp 51) (.tmp 53)), []⟩, ⟨1, (some 56), none, .r (.load true 3 (.tmp 55)), []⟩, ⟨2, (some 12), none, .l (.alloc [.int .i64 0, .str [], .str []]), []⟩, ⟨3, none, none, .e (.store (.tmp 12) (.tmp 56) 3), []⟩] 4 [0, 1, 12, 51, 52, 53]) (.seq (.seq (.ops [⟨0, (some 57), none, .p (.fld 0 (.tmp 12)), []⟩, ⟨1, (some 58), none, .r (.load false 1 (.tmp 57)), []⟩, ⟨2, (some 59), none, .p (.bin .eql (.tmp 58) (.const (.int .i64 2))), []⟩] 3 [0, 1, 12, 51, 52, 53, 59]) (.cond (.tmp 59) (.seq (.seq (.ops [⟨0, (some 60), none, .p (.mv (.tmp 0)), []⟩, ⟨1, (some 61), none, .p (.mv (.tmp 1)), []⟩, ⟨2, (some 62), none, .r (.load true 3 (.tmp 12)), []⟩, ⟨3, (some 63), none, .e (.call true 95 [.tmp 60, .tmp 61, .tmp 62]), []⟩, ⟨4, (some 13), none, .p (.mv (.tmp 63)), []⟩] 5 [0, 1, 13, 51, 52, 53]) (.seq (.ops [⟨0, (some 64), none, .p (.mv (.tmp 13)), []⟩, ⟨1, (some 65), none, .p (.bin .neq (.tmp 64) (.const (.int .i64 0))), []⟩] 2 [0, 1, 13, 51, 52, 53, 65]) (.cond (.tmp 65) (.seq (.ops [⟨0, (some 66), none, .p (.mv (.tmp 13)), []⟩, ⟨1, (some 6), none, .p (.mv (.tmp 66)), []⟩] 2 [6]) (.ret)) (.skip)))) (.exit 3)) (.skip))) (.seq (.ops [⟨0, (some 68), none, .p (.mv (.tmp 0)), []⟩, ⟨1, (some 69), none, .p (.mv (.tmp 1)), []⟩, ⟨2, (some 70), none, .p (.fld 1 (.tmp 12)), []⟩, ⟨3, (some 71), none, .r (.load false 1 (.tmp 70)), []⟩, ⟨4, (some 72), none, .e (.call true 36 [.tmp 68, .tmp 69, .tmp 71]), []⟩, ⟨5, (some 67), none, .p (.mv (.tmp 72)), []⟩, ⟨6, (some 73), none, .p (.extract (.tmp 67) 0), []⟩, ⟨7, (some 74), none, .p (.extract (.tmp 67) 1), []⟩, ⟨8, (some 14), none, .l (.alloc [.str [], .nils, .nils]), []⟩, ⟨9, none, none, .e (.store (.tmp 14) (.tmp 73) 3), []⟩, ⟨10, (some 15), none, .p (.mv (.tmp 74)), []⟩] 11 [0, 1, 12, 15, 51, 52, 53]) (.seq (.ops [⟨0, (some 75), none, .p (.mv (.tmp 15)), []⟩, ⟨1, (some 76), none, .p (.notb (.tmp 75)), []⟩, ⟨2, (some 77), none, .p (.mv (.tmp 76)), []⟩, ⟨3, (some 78), (some (77, true)), .p (.fld 0 (.tmp 12)), []⟩, ⟨4, (some 79), (some (77, true)), .r (.load false 1 (.tmp 78)), []⟩, ⟨5, (some 80), (some (77, true)), .p (.bin .eql (.tmp 79) (.const (.int .i64 1))), []⟩, ⟨6, (some 81), none, .p (.pick (.tmp 77) (.tmp 80) (.const (.bool false))), []⟩] 7 [0, 1, 51, 52, 53, 81]) (.cond (.tmp 81) (.seq (.ops [⟨0, (some 6), none, .p (.mv (.const (.int .i64 12))), []⟩] 1 [6]) (.ret)) (.skip))))))) (.ops [⟨0, (some 82), none, .p (.bin .add (.tmp 53) (.const (.int .i64 1))), []⟩, ⟨1, (some 53), none, .p (.mv (.tmp 82)), []⟩] 2 [0, 1, 51, 52, 53]))))))) (.seq (.ops [⟨0, (some 6), none, .p (.mv (.const (.int .i64 0))), []⟩] 1 [6]) (.ret)))) }
def N67 : Notes := { note := fun | 5 => some ⟨[0, 1, 2, 4, 3, 5, 6, 7, 8, 9, 10, 11, 12, 13, 14, 15, 16], [0, 1, 3, 7, 0, 16, 63, 127, 255, 511, 1023, 2047, 4095, 8191, 16383, 32767, 65535], [[], [], [], [], [], [], [], [], [], [], [], [], [], [], [], [], []]⟩ | _ => none, keep := fun | 19 => [6] | 18 => [0, 1, 51, 52, 53] | 17 => [6] | 16 => [0, 1, 51, 52, 53, 81] | 15 => [0, 1, 12, 15, 51, 52, 53] | 14 => [6] | 13 => [0, 1, 13, 51, 52, 53, 65] | 12 => [0, 1, 13, 51, 52, 53] | 11 => [0, 1, 12, 51, 52, 53, 59] | 10 => [0, 1, 12, 51, 52, 53] | 9 => [0, 1, 51, 52, 53, 54] | 8 => [0, 1, 51, 52, 53] | 7 => [0, 1, 5, 17, 18, 19] | 6 => [6] | 5 => [0, 1, 5, 17, 18, 19, 48] | 4 => [0, 1, 5, 8, 10, 17, 18, 19] | 3 => [0, 1, 5, 8, 17, 18, 19] | 2 => [0, 1, 5, 17, 18, 19, 20] | 1 => [0, 1, 5, 17, 18, 19] | 0 => [0, 1, 5] | _ => [] }
theorem A67_ok : cFn Try.prog qf N67 Try.f67 = some A67 := by kernel_rfl
inductive W67 where
  | mk (x0 x1 x5 x6 x8 x10 x12 x13 x15 x17 x18 x19 x20 x48 x51 x52 x53 x54 x59 x65 x81 : AV)
inductive V67 where
  | mk (x0 x1 x2 : AV)
def mo67 : W67 → Fr := fun ⟨x0, x1, x5, x6, x8, x10, x12, x13, x15, x17, x18, x19, x20, x48, x51, x52, x53, x54, x59, x65, x81⟩ => [x0, x1, .top, .top, .top, x5, x6, .top, x8, .top, x10, .top, x12, x13, .top, x15, .top, x17, x18, x19, x20, .top, .top, .top, .top, .top, .top, .top, .top, .top, .top, .top, .top, .top, .top, .top, .top, .top, .top, .top, .top, .top, .top, .top, .top, .top, .top, .top, x48, .top, .top, x51, x52, x53, x54, .top, .top, .top, .top, x59, .top, .top, .top, .top, .top, x65, .top, .top, .top, .top, .top, .top, .top, .top, .top, .top, .top, .top, .top, .top, .top, x81, .top]
def mi67 : V67 → Fr := fun ⟨x0, x1, x2⟩ => [x0, x1, x2, .tup [], .tup [], .tup [], .tup [], .tup [], .tup [], .tup [], .tup [], .tup [], .tup [], .tup [], .tup [], .tup [], .tup [], .tup [], .tup [], .tup [], .tup [], .tup [], .tup [], .tup [], .tup [], .tup [], .tup [], .tup [], .tup [], .tup [], .tup [], .tup [], .tup [], .tup [], .tup [], .tup [], .tup [], .tup [], .tup [], .tup [], .tup [], .tup [], .tup [], .tup [], .tup [], .tup [], .tup [], .tup [], .tup [], .tup [], .tup [], .tup [], .tup [], .tup [], .tup [], .tup [], .tup [], .tup [], .tup [], .tup [], .tup [], .tup [], .tup [], .tup [], .tup [], .tup [], .tup [], .tup [], .tup [], .tup [], .tup [], .tup [], .tup [], .tup [], .tup [], .tup [], .tup [], .tup [], .tup [], .tup [], .tup [], .tup [], .tup []]
noncomputable def S67r0 {R : Type} (call : Nat → List AV → M AV) : V67 → Nat → AS → (W67 → AS → Option R) → Option R := @V67.rec (fun _ => Nat → AS → (W67 → AS → Option R) → Option R) fun x0 x1 x2 base s k =>
  bndO (newQ (base + 0) (boxB x2 (base + 0)) s) fun y0 s =>
  k (.mk x0 x1 y0 .top .top .top .top .top .top .top .top .top .top .top .top .top .top .top .top .top .top) s
noncomputable def S67r1 {R : Type} (call : Nat → List AV → M AV) : W67 → Nat → AS → (W67 → AS → Option R) → Option R := @W67.rec (fun _ => Nat → AS → (W67 → AS → Option R) → Option R) fun x0 x1 x5 x6 x8 x10 x12 x13 x15 x17 x18 x19 x20 x48 x51 x52 x53 x54 x59 x65 x81 base s k =>
  bndP (fldA 1 x5) fun y0 =>
  bndP (loadQ false 1 y0 s.h) fun y1 =>
  bndP (lenAQ false y1) fun y2 =>
  k (.mk x0 x1 x5 .top .top .top .top .top .top y1 y2 ((.int .i64 0) : AV) .top .top .top .top .top .top .top .top .top) s
noncomputable def S67r2 {R : Type} (call : Nat → List AV → M AV) : W67 → Nat → AS → (W67 → AS → Option R) → Option R := @W67.rec (fun _ => Nat → AS → (W67 → AS → Option R) → Option R) fun x0 x1 x5 x6 x8 x10 x12 x13 x15 x17 x18 x19 x20 x48 x51 x52 x53 x54 x59 x65 x81 base s k =>
  bndP (binQ .lss x19 x18) fun y0 =>
  k (.mk x0 x1 x5 .top .top .top .top .top .top x17 x18 x19 y0 .top .top .top .top .top .top .top .top) s
noncomputable def S67r3 {R : Type} (call : Nat → List AV → M AV) : W67 → Nat → AS → (W67 → AS → Option R) → Option R := @W67.rec (fun _ => Nat → AS → (W67 → AS → Option R) → Option R) fun x0 x1 x5 x6 x8 x10 x12 x13 x15 x17 x18 x19 x20 x48 x51 x52 x53 x54 x59 x65 x81 base s k =>
  bndP (idxQ 3 x17 x19) fun y0 =>
  bndP (loadQ true 3 y0 s.h) fun y1 =>
  bndO (newQ (base + 2) (allocB [(.str []), (.str []), (.str [])] (base + 2)) s) fun y2 s =>
  bndO (storeQ y2 y1 3 s) fun _ s =>
  k (.mk x0 x1 x5 .top y2 .top .top .top .top x17 x18 x19 .top .top .top .top .top .top .top .top .top) s
noncomputable def S67r4 {R : Type} (call : Nat → List AV → M AV) : W67 → Nat → AS → (W67 → AS → Option R) → Option R := @W67.rec (fun _ => Nat → AS → (W67 → AS → Option R) → Option R) fun x0 x1 x5 x6 x8 x10 x12 x13 x15 x17 x18 x19 x20 x48 x51 x52 x53 x54 x59 x65 x81 base s k =>
  bndP (fldA 0 x8) fun y0 =>
  bndP (loadQ false 1 y0 s.h) fun y1 =>
  bndP (fldA 2 x8) fun y2 =>
  bndP (loadQ false 1 y2 s.h) fun y3 =>
  bndO (quietQ call 36 [x0, y1, y3] s) fun y4 s =>
  bndP (extrQ y4 0) fun y5 =>
  bndP (extrQ y4 1) fun y6 =>
  bndO (newQ (base + 9) (allocB [(.str []), .nils, .nils] (base + 9)) s) fun y7 s =>
  bndO (storeQ y7 y5 3 s) fun _ s =>
  k (.mk x0 x1 x5 .top x8 y6 .top .top .top x17 x18 x19 .top .top .top .top .top .top .top .top .top) s
noncomputable def S67r5 {R : Type} (call : Nat → List AV → M AV) : W67 → Nat → AS → (W67 → AS → Option R) → Option R := @W67.rec (fun _ => Nat → AS → (W67 → AS → Option R) → Option R) fun x0 x1 x5 x6 x8 x10 x12 x13 x15 x17 x18 x19 x20 x48 x51 x52 x53 x54 x59 x65 x81 base s k =>
  bndP (nilchkA x0) fun y0 =>
  bndP (fldA 0 y0) fun y1 =>
  bndP (fldA 0 x8) fun y2 =>
  bndP (loadQ false 1 y1 s.h) fun y3 =>
  bndP (loadQ false 1 y2 s.h) fun y4 =>
  bndP (lookupA (.int .i64 0) false [] y3 y4 s.h) fun y5 =>
  bndP (binQ .eql y5 ((.int .i64 0) : AV)) fun y6 =>
  bndO (gd (wantG y6 false) (fun s => (pureO (fldA 2 x8) s)) s) fun y7 s =>
  bndO (gd (wantG y6 false) (fun s => (pureO (loadQ false 1 y7 s.h) s)) s) fun y8 s =>
  bndO (gd (wantG y6 false) (fun s => (pureO (binQ .neq y8 ((.str []) : AV)) s)) s) fun y9 s =>
  bndO (gd (wantG y6 false) (fun s => (pureO (some y9) s)) s) fun y10 s =>
  bndO (gd (wantG y10 true) (fun s => (pureO (some x10) s)) s) fun y11 s =>
  bndO (gd (wantG y10 true) (fun s => (pureO (notA y11) s)) s) fun y12 s =>
  bndO (gd (wantG y6 false) (fun s => (pureO (pickA y10 y12 ((.bool false) : AV)) s)) s) fun y13 s =>
  bndP (pickA y6 ((.bool true) : AV) y13) fun y14 =>
  k (.mk x0 x1 x5 .top .top .top .top .top .top x17 x18 x19 .top y14 .top .top .top .top .top .top .top) s
noncomputable def S67r6 {R : Type} (call : Nat → List AV → M AV) : W67 → Nat → AS → (W67 → AS → Option R) → Option R := @W67.rec (fun _ => Nat → AS → (W67 → AS → Option R) → Option R) fun x0 x1 x5 x6 x8 x10 x12 x13 x15 x17 x18 x19 x20 x48 x51 x52 x53 x54 x59 x65 x81 base s k =>
  k (.mk .top .top .top ((.int .i64 12) : AV) .top .top .top .top .top .top .top .top .top .top .top .top .top .top .top .top .top) s
noncomputable def S67r7 {R : Type} (call : Nat → List AV → M AV) : W67 → Nat → AS → (W67 → AS → Option R) → Option R := @W67.rec (fun _ => Nat → AS → (W67 → AS → Option R) → Option R) fun x0 x1 x5 x6 x8 x10 x12 x13 x15 x17 x18 x19 x20 x48 x51 x52 x53 x54 x59 x65 x81 base s k =>
  bndP (binQ .add x19 ((.int .i64 1) : AV)) fun y0 =>
  k (.mk x0 x1 x5 .top .top .top .top .top .top x17 x18 y0 .top .top .top .top .top .top .top .top .top) s
noncomputable def S67b8 {R : Type} (call : Nat → List AV → M AV) (fuel : Nat) : SC W67 W67 R := sSeq (sReg 1 (S67r2 call)) (sSeq (sCond (@W67.rec (fun _ => AV) fun _ _ _ _ _ _ _ _ _ _ _ _ x20 _ _ _ _ _ _ _ _ => x20) (sSkip) (sExit 0)) (sSeq (sBlock 1 (sSeq (sReg 4 (S67r3 call)) (sSeq (sReg 12 (S67r4 call)) (sSeq (sReg 17 (S67r5 call)) (sCond (@W67.rec (fun _ => AV) fun _ _ _ _ _ _ _ _ _ _ _ _ _ x48 _ _ _ _ _ _ _ => x48) (sSeq (sReg 1 (S67r6 call)) (sRet)) (sSkip)))))) (sReg 2 (S67r7 call))))
noncomputable def S67r9 {R : Type} (call : Nat → List AV → M AV) : W67 → Nat → AS → (W67 → AS → Option R) → Option R := @W67.rec (fun _ => Nat → AS → (W67 → AS → Option R) → Option R) fun x0 x1 x5 x6 x8 x10 x12 x13 x15 x17 x18 x19 x20 x48 x51 x52 x53 x54 x59 x65 x81 base s k =>
  bndP (fldA 2 x5) fun y0 =>
  bndP (loadQ false 1 y0 s.h) fun y1 =>
  bndP (lenAQ false y1) fun y2 =>
  k (.mk x0 x1 .top .top .top .top .top .top .top .top .top .top .top .top y1 y2 ((.int .i64 0) : AV) .top .top .top .top) s
noncomputable def S67r10 {R : Type} (call : Nat → List AV → M AV) : W67 → Nat → AS → (W67 → AS → Option R) → Option R := @W67.rec (fun _ => Nat → AS → (W67 → AS → Option R) → Option R) fun x0 x1 x5 x6 x8 x10 x12 x13 x15 x17 x18 x19 x20 x48 x51 x52 x53 x54 x59 x65 x81 base s k =>
  bndP (binQ .lss x53 x52) fun y0 =>
  k (.mk x0 x1 .top .top .top .top .top .top .top .top .top .top .top .top x51 x52 x53 y0 .top .top .top) s
noncomputable def S67r11 {R : Type} (call : Nat → List AV → M AV) : W67 → Nat → AS → (W67 → AS → Option R) → Option R := @W67.rec (fun _ => Nat → AS → (W67 → AS → Option R) → Option R) fun x0 x1 x5 x6 x8 x10 x12 x13 x15 x17 x18 x19 x20 x48 x51 x52 x53 x54 x59 x65 x81 base s k =>
  bndP (idxQ 3 x51 x53) fun y0 =>
  bndP (loadQ true 3 y0 s.h) fun y1 =>
  bndO (newQ (base + 2) (allocB [(.int .i64 0), (.str []), (.str [])] (base + 2)) s) fun y2 s =>
  bndO (storeQ y2 y1 3 s) fun _ s =>
  k (.mk x0 x1 .top .top .top .top y2 .top .top .top .top .top .top .top x51 x52 x53 .top .top .top .top) s
noncomputable def S67r12 {R : Type} (call : Nat → List AV → M AV) : W67 → Nat → AS → (W67 → AS → Option R) → Option R := @W67.rec (fun _ => Nat → AS → (W67 → AS → Option R) → Option R) fun x0 x1 x5 x6 x8 x10 x12 x13 x15 x17 x18 x19 x20 x48 x51 x52 x53 x54 x59 x65 x81 base s k =>
  bndP (fldA 0 x12) fun y0 =>
  bndP (loadQ false 1 y0 s.h) fun y1 =>
  bndP (binQ .eql y1 ((.int .i64 2) : AV)) fun y2 =>
  k (.mk x0 x1 .top .top .top .top x12 .top .top .top .top .top .top .top x51 x52 x53 .top y2 .top .top) s
noncomputable def S67r13 {R : Type} (call : Nat → List AV → M AV) : W67 → Nat → AS → (W67 → AS → Option R) → Option R := @W67.rec (fun _ => Nat → AS → (W67 → AS → Option R) → Option R) fun x0 x1 x5 x6 x8 x10 x12 x13 x15 x17 x18 x19 x20 x48 x51 x52 x53 x54 x59 x65 x81 base s k =>
  bndP (loadQ true 3 x12 s.h) fun y0 =>
  bndO (quietQ call 95 [x0, x1, y0] s) fun y1 s =>
  k (.mk x0 x1 .top .top .top .top .top y1 .top .top .top .top .top .top x51 x52 x53 .top .top .top .top) s
noncomputable def S67r14 {R : Type} (call : Nat → List AV → M AV) : W67 → Nat → AS → (W67 → AS → Option R) → Option R := @W67.rec (fun _ => Nat → AS → (W67 → AS → Option R) → Option R) fun x0 x1 x5 x6 x8 x10 x12 x13 x15 x17 x18 x19 x20 x48 x51 x52 x53 x54 x59 x65 x81 base s k =>
  bndP (binQ .neq x13 ((.int .i64 0) : AV)) fun y0 =>
  k (.mk x0 x1 .top .top .top .top .top x13 .top .top .top .top .top .top x51 x52 x53 .top .top y0 .top) s
noncomputable def S67r15 {R : Type} (call : Nat → List AV → M AV) : W67 → Nat → AS → (W67 → AS → Option R) → Option R := @W67.rec (fun _ => Nat → AS → (W67 → AS → Option R) → Option R) fun x0 x1 x5 x6 x8 x10 x12 x13 x15 x17 x18 x19 x20 x48 x51 x52 x53 x54 x59 x65 x81 base s k =>
  k (.mk .top .top .top x13 .top .top .top .top .top .top .top .top .top .top .top .top .top .top .top .top .top) s
noncomputable def S67r16 {R : Type} (call : Nat → List AV → M AV) : W67 → Nat → AS → (W67 → AS → Option R) → Option R := @W67.rec (fun _ => Nat → AS → (W67 → AS → Option R) → Option R) fun x0 x1 x5 x6 x8 x10 x12 x13 x15 x17 x18 x19 x20 x48 x51 x52 x53 x54 x59 x65 x81 base s k =>
  bndP (fldA 1 x12) fun y0 =>
  bndP (loadQ false 1 y0 s.h) fun y1 =>
  bndO (quietQ call 36 [x0, x1, y1] s) fun y2 s =>
  bndP (extrQ y2 0) fun y3 =>
  bndP (extrQ y2 1) fun y4 =>
  bndO (newQ (base + 8) (allocB [(.str []), .nils, .nils] (base + 8)) s) fun y5 s =>
  bndO (storeQ y5 y3 3 s) fun _ s =>
  k (.mk x0 x1 .top .top .top .top x12 .top y4 .top .top .top .top .top x51 x52 x53 .top .top .top .top) s
noncomputable def S67r17 {R : Type} (call : Nat → List AV → M AV) : W67 → Nat → AS → (W67 → AS → Option R) → Option R := @W67.rec (fun _ => Nat → AS → (W67 → AS → Option R) → Option R) fun x0 x1 x5 x6 x8 x10 x12 x13 x15 x17 x18 x19 x20 x48 x51 x52 x53 x54 x59 x65 x81 base s k =>
  bndP (notA x15) fun y0 =>
  bndO (gd (wantG y0 true) (fun s => (pureO (fldA 0 x12) s)) s) fun y1 s =>
  bndO (gd (wantG y0 true) (fun s => (pureO (loadQ false 1 y1 s.h) s)) s) fun y2 s =>
  bndO (gd (wantG y0 true) (fun s => (pureO (binQ .eql y2 ((.int .i64 1) : AV)) s)) s) fun y3 s =>
  bndP (pickA y0 y3 ((.bool false) : AV)) fun y4 =>
  k (.mk x0 x1 .top .top .top .top .top .top .top .top .top .top .top .top x51 x52 x53 .top .top .top y4) s
noncomputable def S67r18 {R : Type} (call : Nat → List AV → M AV) : W67 → Nat → AS → (W67 → AS → Option R) → Option R := @W67.rec (fun _ => Nat → AS → (W67 → AS → Option R) → Option R) fun x0 x1 x5 x6 x8 x10 x12 x13 x15 x17 x18 x19 x20 x48 x51 x52 x53 x54 x59 x65 x81 base s k =>
  k (.mk .top .top .top ((.int .i64 12) : AV) .top .top .top .top .top .top .top .top .top .top .top .top .top .top .top .top .top) s
noncomputable def S67r19 {R : Type} (call : Nat → List AV → M AV) : W67 → Nat → AS → (W67 → AS → Option R) → Option R := @W67.rec (fun _ => Nat → AS → (W67 → AS → Option R) → Option R) fun x0 x1 x5 x6 x8 x10 x12 x13 x15 x17 x18 x19 x20 x48 x51 x52 x53 x54 x59 x65 x81 base s k =>
  bndP (binQ .add x53 ((.int .i64 1) : AV)) fun y0 =>
  k (.mk x0 x1 .top .top .top .top .top .top .top .top .top .top .top .top x51 x52 y0 .top .top .top .top) s
noncomputable def S67b20 {R : Type} (call : Nat → List AV → M AV) (fuel : Nat) : SC W67 W67 R := sSeq (sReg 1 (S67r10 call)) (sSeq (sCond (@W67.rec (fun _ => AV) fun _ _ _ _ _ _ _ _ _ _ _ _ _ _ _ _ _ x54 _ _ _ => x54) (sSkip) (sExit 2)) (sSeq (sBlock 3 (sSeq (sReg 4 (S67r11 call)) (sSeq (sSeq (sReg 3 (S67r12 call)) (sCond (@W67.rec (fun _ => AV) fun _ _ _ _ _ _ _ _ _ _ _ _ _ _ _ _ _ _ x59 _ _ => x59) (sSeq (sSeq (sReg 5 (S67r13 call)) (sSeq (sReg 2 (S67r14 call)) (sCond (@W67.rec (fun _ => AV) fun _ _ _ _ _ _ _ _ _ _ _ _ _ _ _ _ _ _ _ x65 _ => x65) (sSeq (sReg 2 (S67r15 call)) (sRet)) (sSkip)))) (sExit 3)) (sSkip))) (sSeq (sReg 11 (S67r16 call)) (sSeq (sReg 7 (S67r17 call)) (sCond (@W67.rec (fun _ => AV) fun _ _ _ _ _ _ _ _ _ _ _ _ _ _ _ _ _ _ _ _ x81 => x81) (sSeq (sReg 1 (S67r18 call)) (sRet)) (sSkip))))))) (sReg 2 (S67r19 call))))
noncomputable def S67r21 {R : Type} (call : Nat → List AV → M AV) : W67 → Nat → AS → (W67 → AS → Option R) → Option R := @W67.rec (fun _ => Nat → AS → (W67 → AS → Option R) → Option R) fun x0 x1 x5 x6 x8 x10 x12 x13 x15 x17 x18 x19 x20 x48 x51 x52 x53 x54 x59 x65 x81 base s k =>
  k (.mk .top .top .top ((.int .i64 0) : AV) .top .top .top .top .top .top .top .top .top .top .top .top .top .top .top .top .top) s
noncomputable def S67c {R : Type} (call : Nat → List AV → M AV) (fuel : Nat) : SC V67 W67 R := sSeq (sReg 2 (S67r0 call)) (sSeq (sSeq (sReg 4 (S67r1 call)) (sBlock 0 (sLoop fuel (S67b8 call fuel)))) (sSeq (sSeq (sReg 4 (S67r9 call)) (sBlock 2 (sLoop fuel (S67b20 call fuel)))) (sSeq (sReg 1 (S67r21 call)) (sRet))))
noncomputable def S67e : Ex → W67 → AS → Option (AV × AS) := fun e w s => (@W67.rec (fun _ => Option (AV × AS)) fun _ _ _ x6 _ _ _ _ _ _ _ _ _ _ _ _ _ _ _ _ _ => @Ex.rec (fun _ => Option (AV × AS)) (some (x6, s)) (fun _ => none) (some (x6, s)) e) w
noncomputable def S67 (call : Nat → List AV → M AV) (fuel : Nat) (args : List AV) (s : AS) : Option (AV × AS) := match args with
  | [x0, x1, x2] => S67c call fuel (.mk x0 x1 x2) s S67e
  | _ => none
theorem S67_sim (call : Nat → List AV → M AV) (fuel : Nat) : Sim (R := AV × AS) call fuel mi67 mo67 A67.code (S67c call fuel) := by
  refine sim_seq (sim_reg (fun ⟨x0, x1, x2⟩ _ _ _ => by kernel_rfl)) (sim_seq (sim_seq (sim_reg (fun ⟨x0, x1, x5, x6, x8, x10, x12, x13, x15, x17, x18, x19, x20, x48, x51, x52, x53, x54, x59, x65, x81⟩ _ _ _ => by kernel_rfl)) (sim_block (sim_loop (sim_seq (sim_reg (fun ⟨x0, x1, x5, x6, x8, x10, x12, x13, x15, x17, x18, x19, x20, x48, x51, x52, x53, x54, x59, x65, x81⟩ _ _ _ => by kernel_rfl)) (sim_seq (sim_cond (fun ⟨x0, x1, x5, x6, x8, x10, x12, x13, x15, x17, x18, x19, x20, x48, x51, x52, x53, x54, x59, x65, x81⟩ => by kernel_rfl) (sim_skip) (sim_exit)) (sim_seq (sim_block (sim_seq (sim_reg (fun ⟨x0, x1, x5, x6, x8, x10, x12, x13, x15, x17, x18, x19, x20, x48, x51, x52, x53, x54, x59, x65, x81⟩ _ _ _ => by kernel_rfl)) (sim_seq (sim_reg (fun ⟨x0, x1, x5, x6, x8, x10, x12, x13, x15, x17, x18, x19, x20, x48, x51, x52, x53, x54, x59, x65, x81⟩ _ _ _ => by kernel_rfl)) (sim_seq (sim_reg (fun ⟨x0, x1, x5, x6, x8, x10, x12, x13, x15, x17, x18, x19, x20, x48, x51, x52, x53, x54, x59, x65, x81⟩ _ _ _ => by kernel_rfl)) (sim_cond (fun ⟨x0, x1, x5, x6, x8, x10, x12, x13, x15, x17, x18, x19, x20, x48, x51, x52, x53, x54, x59, x65, x81⟩ => by kernel_rfl) (sim_seq (sim_reg (fun ⟨x0, x1, x5, x6, x8, x10, x12, x13, x15, x17, x18, x19, x20, x48, x51, x52, x53, x54, x59, x65, x81⟩ _ _ _ => by kernel_rfl)) (sim_ret)) (sim_skip)))))) (sim_reg (fun ⟨x0, x1, x5, x6, x8, x10, x12, x13, x15, x17, x18, x19, x20, x48, x51, x52, x53, x54, x59, x65, x81⟩ _ _ _ => by kernel_rfl)))))))) (sim_seq (sim_seq (sim_reg (fun ⟨x0, x1, x5, x6, x8, x10, x12, x13, x15, x17, x18, x19, x20, x48, x51, x52, x53, x54, x59, x65, x81⟩ _ _ _ => by kernel_rfl)) (sim_block (sim_loop (sim_seq (sim_reg (fun ⟨x0, x1, x5, x6, x8, x10, x12, x13, x15, x17, x18, x19, x20, x48, x51, x52, x53, x54, x59, x65, x81⟩ _ _ _ => by kernel_rfl)) (sim_seq (sim_cond (fun ⟨x0, x1, x5, x6, x8, x10, x12, x13, x15, x17, x18, x19, x20, x48, x51, x52, x53, x54, x59, x65, x81⟩ => by kernel_rfl) (sim_skip) (sim_exit)) (sim_seq (sim_block (sim_seq (sim_reg (fun ⟨x0, x1, x5, x6, x8, x10, x12, x13, x15, x17, x18, x19, x20, x48, x51, x52, x53, x54, x59, x65, x81⟩ _ _ _ => by kernel_rfl)) (sim_seq (sim_seq (sim_reg (fun ⟨x0, x1, x5, x6, x8, x10, x12, x13, x15, x17, x18, x19, x20, x48, x51, x52, x53, x54, x59, x65, x81⟩ _ _ _ => by kernel_rfl)) (sim_cond (fun ⟨x0, x1, x5, x6, x8, x10, x12, x13, x15, x17, x18, x19, x20, x48, x51, x52, x53, x54, x59, x65, x81⟩ => by kernel_rfl) (sim_seq (sim_seq (sim_reg (fun ⟨x0, x1, x5, x6, x8, x10, x12, x13, x15, x17, x18, x19, x20, x48, x51, x52, x53, x54, x59, x65, x81⟩ _ _ _ => by kernel_rfl)) (sim_seq (sim_reg (fun ⟨x0, x1, x5, x6, x8, x10, x12, x13, x15, x17, x18, x19, x20, x48, x51, x52, x53, x54, x59, x65, x81⟩ _ _ _ => by kernel_rfl)) (sim_cond (fun ⟨x0, x1, x5, x6, x8, x10, x12, x13, x15, x17, x18, x19, x20, x48, x51, x52, x53, x54, x59, x65, x81⟩ => by kernel_rfl) (sim_seq (sim_reg (fun ⟨x0, x1, x5, x6, x8, x10, x12, x13, x15, x17, x18, x19, x20, x48, x51, x52, x53, x54, x59, x65, x81⟩ _ _ _ => by kernel_rfl)) (sim_ret)) (sim_skip)))) (sim_exit)) (sim_skip))) (sim_seq (sim_reg (fun ⟨x0, x1, x5, x6, x8, x10, x12, x13, x15, x17, x18, x19, x20, x48, x51, x52, x53, x54, x59, x65, x81⟩ _ _ _ => by kernel_rfl)) (sim_seq (sim_reg (fun ⟨x0, x1, x5, x6, x8, x10, x12, x13, x15, x17, x18, x19, x20, x48, x51, x52, x53, x54, x59, x65, x81⟩ _ _ _ => by kernel_rfl)) (sim_cond (fun ⟨x0, x1, x5, x6, x8, x10, x12, x13, x15, x17, x18, x19, x20, x48, x51, x52, x53, x54, x59, x65, x81⟩ => by kernel_rfl) (sim_seq (sim_reg (fun ⟨x0, x1, x5, x6, x8, x10, x12, x13, x15, x17, x18, x19, x20, x48, x51, x52, x53, x54, x59, x65, x81⟩ _ _ _ => by kernel_rfl)) (sim_ret)) (sim_skip))))))) (sim_reg (fun ⟨x0, x1, x5, x6, x8, x10, x12, x13, x15, x17, x18, x19, x20, x48, x51, x52, x53, x54, x59, x65, x81⟩ _ _ _ => by kernel_rfl)))))))) (sim_seq (sim_reg (fun ⟨x0, x1, x5, x6, x8, x10, x12, x13, x15, x17, x18, x19, x20, x48, x51, x52, x53, x54, x59, x65, x81⟩ _ _ _ => by kernel_rfl)) (sim_ret))))
theorem S67_ok (call : Nat → List AV → M AV) (fuel : Nat) (args : List AV) (s : AS) : afn call fuel A67 args s = S67 call fuel args s := by
  rcases args with _ | ⟨x0, _ | ⟨x1, _ | ⟨x2, _ | ⟨x3, r⟩⟩⟩⟩
  · kernel_rfl
  · kernel_rfl
  · kernel_rfl
  · exact (afn_sim (S67_sim call fuel) (v := (.mk x0 x1 x2)) (e2 := S67e) (by kernel_rfl) (by kernel_rfl) (fun e w s => by cases w; cases e <;> kernel_rfl)).trans (by kernel_rfl)
  · kernel_rfl
def A68 : AFn := { nargs := 1, ntmps := 28, res := [], code := .seq (.ops [⟨0, (some 4), none, .p (.mv (.tmp 0)), []⟩, ⟨1, (some 5), none, .p (.lenS false (.tmp 4)), []⟩, ⟨2, (some 6), none, .p (.bin .sub (.tmp 5) (.const (.int .i64 1))), []⟩, ⟨3, (some 2), none, .p (.mv (.const (.int .i64 0))), []⟩, ⟨4, (some 3), none, .p (.mv (.tmp 6)), []⟩] 5 [0, 2, 3]) (.block 0 (.loop (.seq (.seq (.ops [⟨0, (some 7), none, .p (.mv (.tmp 2)), []⟩, ⟨1, (some 8), none, .p (.mv (.tmp 3)), []⟩, ⟨2, (some 9), none, .p (.bin .lss (.tmp 7) (.tmp 8)), []⟩] 3 [0, 2, 3, 9]) (.cond (.tmp 9) (.skip) (.exit 0))) (.seq (.block 1 (.ops [⟨0, (some 14), none, .p (.mv (.tmp 0)), []⟩, ⟨1, (some 15), none, .p (.mv (.tmp 2)), []⟩, ⟨2, (some 16), none, .p (.mv (.tmp 0)), []⟩, ⟨3, (some 17), none, .p (.mv (.tmp 3)), []⟩, ⟨4, (some 18), none, .p (.mv (.tmp 0)), []⟩, ⟨5, (some 19), none, .p (.mv (.tmp 3)), []⟩, ⟨6, (some 20), none, .p (.idx 2 (.tmp 18) (.tmp 19)), []⟩, ⟨8, (some 22), none, .p (.mv (.tmp 0)), []⟩, ⟨9, (some 23), none, .p (.mv (.tmp 2)), []⟩, ⟨10, (some 24), none, .p (.idx 2 (.tmp 22) (.tmp 23)), []⟩, ⟨7, (some 21), none, .r (.load true 2 (.tmp 20)), []⟩, ⟨11, (some 25), none, .r (.load true 2 (.tmp 24)), []⟩, ⟨12, (some 26), none, .p (.idx 2 (.tmp 14) (.tmp 15)), []⟩, ⟨13, none, none, .e (.store (.tmp 26) (.tmp 21) 2), []⟩, ⟨14, (some 27), none, .p (.idx 2 (.tmp 16) (.tmp 17)), []⟩, ⟨15, none, none, .e (.store (.tmp 27) (.tmp 25) 2), []⟩] 16 [0, 2, 3])) (.ops [⟨0, (some 10), none, .p (.mv (.tmp 2)), []⟩, ⟨1, (some 11), none, .p (.bin .add (.tmp 10) (.const (.int .i64 1))), []⟩, ⟨2, (some 12), none, .p (.mv (.tmp 3)), []⟩, ⟨3, (some 13), none, .p (.bin .sub (.tmp 12) (.const (.int .i64 1))), []⟩, ⟨4, (some 2), none, .p (.mv (.tmp 11)), []⟩, ⟨5, (some 3), none, .p (.mv (.tmp 13)), []⟩] 6 [0, 2, 3]))))) }
def N68 : Notes := { note := fun | 3 => some ⟨[0, 1, 2, 3, 4, 5, 6, 8, 9, 10, 7, 11, 12, 13, 14, 15], [0, 0, 0, 0, 0, 0, 48, 112, 0, 0, 768, 1792, 4083, 8179, 16383, 32767], [[], [], [], [], [], [], [], [], [], [], [], [], [], [], [], []]⟩ | _ => none, keep := fun | 2 => [0, 2, 3] | 3 => [0, 2, 3] | 1 => [0, 2, 3, 9] | 0 => [0, 2, 3] | _ => [] }
theorem A68_ok : cFn Try.prog qf N68 Try.f68 = some A68 := by kernel_rfl
inductive W68 where
  | mk (x0 x2 x3 x9 : AV)
abbrev V68 := AV
def mo68 : W68 → Fr := fun ⟨x0, x2, x3, x9⟩ => [x0, .top, x2, x3, .top, .top, .top, .top, .top, x9, .top, .top, .top, .top, .top, .top, .top, .top, .top, .top, .top, .top, .top, .top, .top, .top, .top, .top]
def mi68 : V68 → Fr := fun x0 => [x0, .tup [], .tup [], .tup [], .tup [], .tup [], .tup [], .tup [], .tup [], .tup [], .tup [], .tup [], .tup [], .tup [], .tup [], .tup [], .tup [], .tup [], .tup [], .tup [], .tup [], .tup [], .tup [], .tup [], .tup [], .tup [], .tup [], .tup []]
noncomputable def S68r0 {R : Type} (call : Nat → List AV → M AV) : V68 → Nat → AS → (W68 → AS → Option R) → Option R := fun x0 base s k =>
  bndP (lenAQ false x0) fun y0 =>
  bndP (binQ .sub y0 ((.int .i64 1) : AV)) fun y1 =>
  k (.mk x0 ((.int .i64 0) : AV) y1 .top) s
noncomputable def S68r1 {R : Type} (call : Nat → List AV → M AV) : W68 → Nat → AS → (W68 → AS → Option R) → Option R := @W68.rec (fun _ => Nat → AS → (W68 → AS → Option R) → Option R) fun x0 x2 x3 x9 base s k =>
  bndP (binQ .lss x2 x3) fun y0 =>
  k (.mk x0 x2 x3 y0) s
noncomputable def S68r2 {R : Type} (call : Nat → List AV → M AV) : W68 → Nat → AS → (W68 → AS → Option R) → Option R := @W68.rec (fun _ => Nat → AS → (W68 → AS → Option R) → Option R) fun x0 x2 x3 x9 base s k =>
  bndP (idxQ 2 x0 x3) fun y0 =>
  bndP (idxQ 2 x0 x2) fun y1 =>
  bndP (loadQ true 2 y0 s.h) fun y2 =>
  bndP (loadQ true 2 y1 s.h) fun y3 =>
  bndP (idxQ 2 x0 x2) fun y4 =>
  bndO (storeQ y4 y2 2 s) fun _ s =>
  bndP (idxQ 2 x0 x3) fun y5 =>
  bndO (storeQ y5 y3 2 s) fun _ s =>
  k (.mk x0 x2 x3 .top) s
noncomputable def S68r3 {R : Type} (call : Nat → List AV → M AV) : W68 → Nat → AS → (W68 → AS → Option R) → Option R := @W68.rec (fun _ => Nat → AS → (W68 → AS → Option R) → Option R) fun x0 x2 x3 x9 base s k =>
  bndP (binQ .add x2 ((.int .i64 1) : AV)) fun y0 =>
  bndP (binQ .sub x3 ((.int .i64 1) : AV)) fun y1 =>
  k (.mk x0 y0 y1 .top) s
noncomputable def S68b4 {R : Type} (call : Nat → List AV → M AV) (fuel : Nat) : SC W68 W68 R := sSeq (sSeq (sReg 3 (S68r1 call)) (sCond (@W68.rec (fun _ => AV) fun _ _ _ x9 => x9) (sSkip) (sExit 0))) (sSeq (sBlock 1 (sReg 16 (S68r2 call))) (sReg 6 (S68r3 call)))
noncomputable def S68c {R : Type} (call : Nat → List AV → M AV) (fuel : Nat) : SC V68 W68 R := sSeq (sReg 5 (S68r0 call)) (sBlock 0 (sLoop fuel (S68b4 call fuel)))
noncomputable def S68e : Ex → W68 → AS → Option (AV × AS) := fun e w s => (@W68.rec (fun _ => Option (AV × AS)) fun _ _ _ _ => @Ex.rec (fun _ => Option (AV × AS)) (some (.tup [], s)) (fun _ => none) (some (.tup [], s)) e) w
noncomputable def S68 (call : Nat → List AV → M AV) (fuel : Nat) (args : List AV) (s : AS) : Option (AV × AS) := match args with
  | [x0] => S68c call fuel x0 s S68e
  | _ => none
theorem S68_sim (call : Nat → List AV → M AV) (fuel : Nat) : Sim (R := AV × AS) call fuel mi68 mo68 A68.code (S68c call fuel) := by
  refine sim_seq (sim_reg (fun x0 _ _ _ => by kernel_rfl)) (sim_block (sim_loop (sim_seq (sim_seq (sim_reg (fun ⟨x0, x2, x3, x9⟩ _ _ _ => by kernel_rfl)) (sim_cond (fun ⟨x0, x2, x3, x9⟩ => by kernel_rfl) (sim_skip) (sim_exit))) (sim_seq (sim_block (sim_reg (fun ⟨x0, x2, x3, x9⟩ _ _ _ => by kernel_rfl))) (sim_reg (fun ⟨x0, x2, x3, x9⟩ _ _ _ => by kernel_rfl))))))
theorem S68_ok (call : Nat → List AV → M AV) (fuel : Nat) (args : List AV) (s : AS) : afn call fuel A68 args s = S68 call fuel args s := by
  rcases args with _ | ⟨x0, _ | ⟨x1, r⟩⟩
  · kernel_rfl
  · exact (afn_sim (S68_sim call fuel) (v := x0) (e2 := S68e) (by kernel_rfl) (by kernel_rfl) (fun e w s => by cases w; cases e <;> kernel_rfl)).trans (by kernel_rfl)
  · kernel_rfl
def A69 : AFn := { nargs := 2, ntmps := 79, res := [.tmp 4], code := .seq (.ops [⟨0, (some 4), none, .p (.mv (.const (.bool false))), []⟩] 1 [0, 1]) (.seq (.ops [⟨0, (some 14), none, .l .mkmap, []⟩, ⟨1, (some 5), none, .p (.mv (.tmp 14)), []⟩] 2 [0, 1, 5]) (.seq (.seq (.ops [⟨0, (some 15), none, .p (.mv (.tmp 1)), []⟩, ⟨1, (some 16), none, .p (.lenS false (.tmp 15)), []⟩, ⟨2, (some 17), none, .p (.mv (.const (.int .i64 0))), []⟩] 3 [0, 1, 5, 15, 16, 17]) (.block 0 (.loop (.seq (.ops [⟨0, (some 18), none, .p (.bin .lss (.tmp 17) (.tmp 16)), []⟩] 1 [0, 1, 5, 15, 16, 17, 18]) (.seq (.cond (.tmp 18) (.skip) (.exit 0)) (.seq (.block 1 (.seq (.ops [⟨0, (some 19), none, .p (.idx 2 (.tmp 15) (.tmp 17)), []⟩, ⟨1, (some 20), none, .r (.load true 2 (.tmp 19)), []⟩, ⟨2, (some 7), none, .l (.alloc [.str [], .str []]), []⟩, ⟨3, none, none, .e (.store (.tmp 7) (.tmp 20) 2), []⟩] 4 [0, 1, 5, 7, 15, 16, 17]) (.ops [⟨0, (some 21), none, .p (.mv (.tmp 5)), []⟩, ⟨2, (some 23), none, .p (.mv (.tmp 0)), []⟩, ⟨1, (some 22), none, .r (.load true 2 (.tmp 7)), []⟩, ⟨3, (some 24), none, .r (.load true 2 (.tmp 7)), []⟩, ⟨4, (some 25), none, .e (.call true 96 [.tmp 23, .tmp 24]), []⟩, ⟨5, none, none, .e (.mapset [true, true] (.tmp 21) (.tmp 22) (.tmp 25)), []⟩] 6 [0, 1, 5, 15, 16, 17]))) (.ops [⟨0, (some 26), none, .p (.bin .add (.tmp 17) (.const (.int .i64 1))), []⟩, ⟨1, (some 17), none, .p (.mv (.tmp 26)), []⟩] 2 [0, 1, 5, 15, 16, 17]))))))) (.seq (.seq (.ops [⟨0, (some 8), none, .p (.mv (.const (.bool true))), []⟩] 1 [0, 1, 5, 8]) (.block 2 (.loop (.seq (.seq (.ops [⟨0, (some 27), none, .p (.mv (.tmp 8)), []⟩] 1 [0, 1, 5, 27]) (.cond (.tmp 27) (.skip) (.exit 2))) (.block 3 (.seq (.ops [⟨0, (some 8), none, .p (.mv (.const (.bool false))), []⟩] 1 [0, 1, 5, 8]) (.seq (.ops [⟨0, (some 28), none, .p (.mv (.tmp 1)), []⟩, ⟨1, (some 29), none, .p (.lenS false (.tmp 28)), []⟩, ⟨2, (some 30), none, .p (.mv (.const (.int .i64 0))), []⟩] 3 [0, 1, 5, 8, 28, 29, 30]) (.block 4 (.loop (.seq (.ops [⟨0, (some 31), none, .p (.bin .lss (.tmp 30) (.tmp 29)), []⟩] 1 [0, 1, 5, 8, 28, 29, 30, 31]) (.seq (.cond (.tmp 31) (.skip) (.exit 4)) (.seq (.block 5 (.seq (.ops [⟨0, (some 32), none, .p (.idx 2 (.tmp 28) (.tmp 30)), []⟩, ⟨1, (some 33), none, .r (.load true 2 (.tmp 32)), []⟩, ⟨2, (some 10), none, .l (.alloc [.str [], .str []]), []⟩, ⟨3, none, none, .e (.store (.tmp 10) (.tmp 33) 2), []⟩] 4 [0, 1, 5, 8, 10, 28, 29, 30]) (.seq (.seq (.ops [⟨0, (some 34), none, .p (.mv (.tmp 5)), []⟩, ⟨1, (some 35), none, .r (.load true 2 (.tmp 10)), []⟩, ⟨2, (some 36), none, .r (.lookup (.nils) false [true, true] (.tmp 34) (.tmp 35)), []⟩, ⟨3, (some 37), none, .p (.lenS false (.tmp 36)), []⟩, ⟨4, (some 38), none, .p (.mv (.const (.int .i64 0))), []⟩] 5 [0, 1, 5, 8, 10, 28, 29, 30, 36, 37, 38]) (.block 6 (.loop (.seq (.ops [⟨0, (some 39), none, .p (.bin .lss (.tmp 38) (.tmp 37)), []⟩] 1 [0, 1, 5, 8, 10, 28, 29, 30, 36, 37, 38, 39]) (.seq (.cond (.tmp 39) (.skip) (.exit 6)) (.seq (.block 7 (.seq (.ops [⟨0, (some 40), none, .p (.idx 3 (.tmp 36) (.tmp 38)), []⟩, ⟨1, (some 41), none, .r (.load true 3 (.tmp 40)), []⟩, ⟨2, (some 12), none, .l (.alloc [.str [], .str [], .int .i64 0]), []⟩, ⟨3, none, none, .e (.store (.tmp 12) (.tmp 41) 3), []⟩] 4 [0, 1, 5, 8, 10, 12, 28, 29, 30, 36, 37, 38]) (.seq (.ops [⟨0, (some 42), none, .p (.mv (.tmp 0)), []⟩, ⟨1, (some 43), none, .p (.nilchk (.tmp 42)), []⟩, ⟨2, (some 44), none, .p (.fld 2 (.tmp 43)), []⟩, ⟨4, (some 46), none, .p (.fld 0 (.tmp 12)), []⟩, ⟨7, (some 49), none, .p (.fld 2 (.tmp 12)), []⟩, ⟨3, (some 45), none, .r (.load false 1 (.tmp 44)), []⟩, ⟨5, (some 47), none, .r (.load true 2 (.tmp 46)), []⟩, ⟨6, (some 48), none, .r (.lookup (.int .i64 0) false [true, true] (.tmp 45) (.tmp 47)), []⟩, ⟨8, (some 50), none, .r (.load false 1 (.tmp 49)), []⟩, ⟨9, (some 51), none, .p (.bin .add (.tmp 48) (.tmp 50)), []⟩, ⟨10, (some 13), none, .p (.mv (.tmp 51)), []⟩] 11 [0, 1, 5, 8, 10, 13, 28, 29, 30, 36, 37, 38]) (.seq (.ops [⟨0, (some 52), none, .p (.mv (.tmp 13)), []⟩, ⟨1, (some 53), none, .p (.mv (.tmp 0)), []⟩, ⟨2, (some 54), none, .p (.nilchk (.tmp 53)), []⟩, ⟨3, (some 55), none, .p (.fld 2 (.tmp 54)), []⟩, ⟨4, (some 56), none, .r (.load false 1 (.tmp 55)), []⟩, ⟨5, (some 57), none, .r (.load true 2 (.tmp 10)), []⟩, ⟨6, (some 58), none, .r (.lookup (.int .i64 0) false [true, true] (.tmp 56) (.tmp 57)), []⟩, ⟨7, (some 59), none, .p (.bin .gtr (.tmp 52) (.tmp 58)), []⟩] 8 [0, 1, 5, 8, 10, 13, 28, 29, 30, 36, 37, 38, 59]) (.cond (.tmp 59) (.ops [⟨0, (some 60), none, .p (.mv (.tmp 0)), []⟩, ⟨1, (some 61), none, .p (.nilchk (.tmp 60)), []⟩, ⟨2, (some 62), none, .p (.fld 2 (.tmp 61)), []⟩, ⟨5, (some 65), none, .p (.mv (.tmp 13)), []⟩, ⟨3, (some 63), none, .r (.load false 1 (.tmp 62)), []⟩, ⟨4, (some 64), none, .r (.load true 2 (.tmp 10)), []⟩, ⟨6, (some 66), none, .e (.mapent [true, true] (.int .i64 0) (.tmp 63) (.tmp 64)), []⟩, ⟨7, (some 67), none, .p (.extract (.tmp 66) 1), []⟩, ⟨8, none, none, .e (.entset (.tmp 63) (.tmp 67) (.tmp 65)), []⟩, ⟨9, (some 8), none, .p (.mv (.const (.bool true))), []⟩] 10 [0, 1, 5, 8, 10, 28, 29, 30, 36, 37, 38]) (.skip)))))) (.ops [⟨0, (some 68), none, .p (.bin .add (.tmp 38) (.const (.int .i64 1))), []⟩, ⟨1, (some 38), none, .p (.mv (.tmp 68)), []⟩] 2 [0, 1, 5, 8, 10, 28, 29, 30, 36, 37, 38]))))))) (.seq (.ops [⟨0, (some 69), none, .p (.mv (.tmp 0)), []⟩, ⟨1, (some 70), none, .p (.nilchk (.tmp 69)), []⟩, ⟨2, (some 71), none, .p (.fld 2 (.tmp 70)), []⟩, ⟨6, (some 75), none, .p (.mv (.tmp 1)), []⟩, ⟨7, (some 76), none, .p (.lenS false (.tmp 75)), []⟩, ⟨3, (some 72), none, .r (.load false 1 (.tmp 71)), []⟩, ⟨4, (some 73), none, .r (.load true 2 (.tmp 10)), []⟩, ⟨5, (some 74), none, .r (.lookup (.int .i64 0) false [true, true] (.tmp 72) (.tmp 73)), []⟩, ⟨8, (some 77), none, .p (.bin .gtr (.tmp 74) (.tmp 76)), []⟩] 9 [0, 1, 5, 8, 28, 29, 30, 77]) (.cond (.tmp 77) (.seq (.ops [⟨0, (some 4), none, .p (.mv (.const (.bool false))), []⟩] 1 [4]) (.ret)) (.skip)))))) (.ops [⟨0, (some 78), none, .p (.bin .add (.tmp 30) (.const (.int .i64 1))), []⟩, ⟨1, (some 30), none, .p (.mv (.tmp 78)), []⟩] 2 [0, 1, 5, 8, 28, 29, 30]))))))))))))) (.seq (.ops [⟨0, (some 4), none, .p (.mv (.const (.bool true))), []⟩] 1 [4]) (.ret))))) }
def N69 : Notes := { note := fun | 5 => some ⟨[0, 2, 1, 3, 4, 5], [0, 0, 0, 0, 12, 31], [[], [], [], [], [], []]⟩ | 16 => some ⟨[0, 1, 2, 4, 7, 3, 5, 6, 8, 9, 10], [0, 1, 3, 7, 0, 16, 63, 0, 128, 511, 1023], [[], [], [], [], [], [], [], [], [], [], []]⟩ | 17 => some ⟨[0, 1, 2, 3, 4, 5, 6, 7], [0, 0, 2, 6, 14, 0, 62, 127], [[], [], [], [], [], [], [], []]⟩ | 18 => some ⟨[0, 1, 2, 5, 3, 4, 6, 7, 8, 9], [0, 1, 3, 7, 0, 0, 31, 95, 255, 511], [[], [], [], [], [], [], [], [], [], []]⟩ | 20 => some ⟨[0, 1, 2, 6, 7, 3, 4, 5, 8], [0, 1, 3, 7, 0, 31, 0, 64, 255], [[], [], [], [], [], [], [], [], []]⟩ | _ => none, keep := fun | 23 => [4] | 22 => [0, 1, 5, 8, 28, 29, 30] | 21 => [4] | 20 => [0, 1, 5, 8, 28, 29, 30, 77] | 19 => [0, 1, 5, 8, 10, 28, 29, 30, 36, 37, 38] | 18 => [0, 1, 5, 8, 10, 28, 29, 30, 36, 37, 38] | 17 => [0, 1, 5, 8, 10, 13, 28, 29, 30, 36, 37, 38, 59] | 16 => [0, 1, 5, 8, 10, 13, 28, 29, 30, 36, 37, 38] | 15 => [0, 1, 5, 8, 10, 12, 28, 29, 30, 36, 37, 38] | 14 => [0, 1, 5, 8, 10, 28, 29, 30, 36, 37, 38, 39] | 13 => [0, 1, 5, 8, 10, 28, 29, 30, 36, 37, 38] | 12 => [0, 1, 5, 8, 10, 28, 29, 30] | 11 => [0, 1, 5, 8, 28, 29, 30, 31] | 10 => [0, 1, 5, 8, 28, 29, 30] | 9 => [0, 1, 5, 8] | 8 => [0, 1, 5, 27] | 7 => [0, 1, 5, 8] | 6 => [0, 1, 5, 15, 16, 17] | 5 => [0, 1, 5, 15, 16, 17] | 4 => [0, 1, 5, 7, 15, 16, 17] | 3 => [0, 1, 5, 15, 16, 17, 18] | 2 => [0, 1, 5, 15, 16, 17] | 1 => [0, 1, 5] | 0 => [0, 1] | _ => [] }
theorem A69_ok : cFn Try.prog qf N69 Try.f69 = some A69 := by kernel_rfl
inductive W69 where
  | mk (x0 x1 x4 x5 x7 x8 x10 x12 x13 x15 x16 x17 x18 x27 x28 x29 x30 x31 x36 x37 x38 x39 x59 x77 : AV)
inductive V69 where
  | mk (x0 x1 : AV)
def mo69 : W69 → Fr := fun ⟨x0, x1, x4, x5, x7, x8, x10, x12, x13, x15, x16, x17, x18, x27, x28, x29, x30, x31, x36, x37, x38, x39, x59, x77⟩ => [x0, x1, .top, .top, x4, x5, .top, x7, x8, .top, x10, .top, x12, x13, .top, x15, x16, x17, x18, .top, .top, .top, .top, .top, .top, .top, .top, x27, x28, x29, x30, x31, .top, .top, .top, .top, x36, x37, x38, x39, .top, .top, .top, .top, .top, .top, .top, .top, .top, .top, .top, .top, .top, .top, .top, .top, .top, .top, .top, x59, .top, .top, .top, .top, .top, .top, .top, .top, .top, .top, .top, .top, .top, .top, .top, .top, .top, x77, .top]
def mi69 : V69 → Fr := fun ⟨x0, x1⟩ => [x0, x1, .tup [], .tup [], .tup [], .tup [], .tup [], .tup [], .tup [], .tup [], .tup [], .tup [], .tup [], .tup [], .tup [], .tup [], .tup [], .tup [], .tup [], .tup [], .tup [], .tup [], .tup [], .tup [], .tup [], .tup [], .tup [], .tup [], .tup [], .tup [], .tup [], .tup [], .tup [], .tup [], .tup [], .tup [], .tup [], .tup [], .tup [], .tup [], .tup [], .tup [], .tup [], .tup [], .tup [], .tup [], .tup [], .tup [], .tup [], .tup [], .tup [], .tup [], .tup [], .tup [], .tup [], .tup [], .tup [], .tup [], .tup [], .tup [], .tup [], .tup [], .tup [], .tup [], .tup [], .tup [], .tup [], .tup [], .tup [], .tup [], .tup [], .tup [], .tup [], .tup [], .tup [], .tup [], .tup [], .tup [], .tup []]
noncomputable def S69r0 {R : Type} (call : Nat → List AV → M AV) : V69 → Nat → AS → (W69 → AS → Option R) → Option R := @V69.rec (fun _ => Nat → AS → (W69 → AS → Option R) → Option R) fun x0 x1 base s k =>
  k (.mk x0 x1 .top .top .top .top .top .top .top .top .top .top .top .top .top .top .top .top .top .top .top .top .top .top) s
noncomputable def S69r1 {R : Type} (call : Nat → List AV → M AV) : W69 → Nat → AS → (W69 → AS → Option R) → Option R := @W69.rec (fun _ => Nat → AS → (W69 → AS → Option R) → Option R) fun x0 x1 x4 x5 x7 x8 x10 x12 x13 x15 x16 x17 x18 x27 x28 x29 x30 x31 x36 x37 x38 x39 x59 x77 base s k =>
  bndO (newQ (base + 0) (mapB (base + 0)) s) fun y0 s =>
  k (.mk x0 x1 .top y0 .top .top .top .top .top .top .top .top .top .top .top .top .top .top .top .top .top .top .top .top) s
noncomputable def S69r2 {R : Type} (call : Nat → List AV → M AV) : W69 → Nat → AS → (W69 → AS → Option R) → Option R := @W69.rec (fun _ => Nat → AS → (W69 → AS → Option R) → Option R) fun x0 x1 x4 x5 x7 x8 x10 x12 x13 x15 x16 x17 x18 x27 x28 x29 x30 x31 x36 x37 x38 x39 x59 x77 base s k =>
  bndP (lenAQ false x1) fun y0 =>
  k (.mk x0 x1 .top x5 .top .top .top .top .top x1 y0 ((.int .i64 0) : AV) .top .top .top .top .top .top .top .top .top .top .top .top) s
noncomputable def S69r3 {R : Type} (call : Nat → List AV → M AV) : W69 → Nat → AS → (W69 → AS → Option R) → Option R := @W69.rec (fun _ => Nat → AS → (W69 → AS → Option R) → Option R) fun x0 x1 x4 x5 x7 x8 x10 x12 x13 x15 x16 x17 x18 x27 x28 x29 x30 x31 x36 x37 x38 x39 x59 x77 base s k =>
  bndP (binQ .lss x17 x16) fun y0 =>
  k (.mk x0 x1 .top x5 .top .top .top .top .top x15 x16 x17 y0 .top .top .top .top .top .top .top .top .top .top .top) s
noncomputable def S69r4 {R : Type} (call : Nat → List AV → M AV) : W69 → Nat → AS → (W69 → AS → Option R) → Option R := @W69.rec (fun _ => Nat → AS → (W69 → AS → Option R) → Option R) fun x0 x1 x4 x5 x7 x8 x10 x12 x13 x15 x16 x17 x18 x27 x28 x29 x30 x31 x36 x37 x38 x39 x59 x77 base s k =>
  bndP (idxQ 2 x15 x17) fun y0 =>
  bndP (loadQ true 2 y0 s.h) fun y1 =>
  bndO (newQ (base + 2) (allocB [(.str []), (.str [])] (base + 2)) s) fun y2 s =>
  bndO (storeQ y2 y1 2 s) fun _ s =>
  k (.mk x0 x1 .top x5 y2 .top .top .top .top x15 x16 x17 .top .top .top .top .top .top .top .top .top .top .top .top) s
noncomputable def S69r5 {R : Type} (call : Nat → List AV → M AV) : W69 → Nat → AS → (W69 → AS → Option R) → Option R := @W69.rec (fun _ => Nat → AS → (W69 → AS → Option R) → Option R) fun x0 x1 x4 x5 x7 x8 x10 x12 x13 x15 x16 x17 x18 x27 x28 x29 x30 x31 x36 x37 x38 x39 x59 x77 base s k =>
  bndP (loadQ true 2 x7 s.h) fun y0 =>
  bndP (loadQ true 2 x7 s.h) fun y1 =>
  bndO (quietQ call 96 [x0, y1] s) fun y2 s =>
  bndO (mapsetA [true, true] x5 y0 y2 s) fun _ s =>
  k (.mk x0 x1 .top x5 .top .top .top .top .top x15 x16 x17 .top .top .top .top .top .top .top .top .top .top .top .top) s
noncomputable def S69r6 {R : Type} (call : Nat → List AV → M AV) : W69 → Nat → AS → (W69 → AS → Option R) → Option R := @W69.rec (fun _ => Nat → AS → (W69 → AS → Option R) → Option R) fun x0 x1 x4 x5 x7 x8 x10 x12 x13 x15 x16 x17 x18 x27 x28 x29 x30 x31 x36 x37 x38 x39 x59 x77 base s k =>
  bndP (binQ .add x17 ((.int .i64 1) : AV)) fun y0 =>
  k (.mk x0 x1 .top x5 .top .top .top .top .top x15 x16 y0 .top .top .top .top .top .top .top .top .top .top .top .top) s
noncomputable def S69b7 {R : Type} (call : Nat → List AV → M AV) (fuel : Nat) : SC W69 W69 R := sSeq (sReg 1 (S69r3 call)) (sSeq (sCond (@W69.rec (fun _ => AV) fun _ _ _ _ _ _ _ _ _ _ _ _ x18 _ _ _ _ _ _ _ _ _ _ _ => x18) (sSkip) (sExit 0)) (sSeq (sBlock 1 (sSeq (sReg 4 (S69r4 call)) (sReg 6 (S69r5 call)))) (sReg 2 (S69r6 call))))
noncomputable def S69r8 {R : Type} (call : Nat → List AV → M AV) : W69 → Nat → AS → (W69 → AS → Option R) → Option R := @W69.rec (fun _ => Nat → AS → (W69 → AS → Option R) → Option R) fun x0 x1 x4 x5 x7 x8 x10 x12 x13 x15 x16 x17 x18 x27 x28 x29 x30 x31 x36 x37 x38 x39 x59 x77 base s k =>
  k (.mk x0 x1 .top x5 .top ((.bool true) : AV) .top .top .top .top .top .top .top .top .top .top .top .top .top .top .top .top .top .top) s
noncomputable def S69r9 {R : Type} (call : Nat → List AV → M AV) : W69 → Nat → AS → (W69 → AS → Option R) → Option R := @W69.rec (fun _ => Nat → AS → (W69 → AS → Option R) → Option R) fun x0 x1 x4 x5 x7 x8 x10 x12 x13 x15 x16 x17 x18 x27 x28 x29 x30 x31 x36 x37 x38 x39 x59 x77 base s k =>
  k (.mk x0 x1 .top x5 .top .top .top .top .top .top .top .top .top x8 .top .top .top .top .top .top .top .top .top .top) s
noncomputable def S69r10 {R : Type} (call : Nat → List AV → M AV) : W69 → Nat → AS → (W69 → AS → Option R) → Option R := @W69.rec (fun _ => Nat → AS → (W69 → AS → Option R) → Option R) fun x0 x1 x4 x5 x7 x8 x10 x12 x13 x15 x16 x17 x18 x27 x28 x29 x30 x31 x36 x37 x38 x39 x59 x77 base s k =>
  k (.mk x0 x1 .top x5 .top ((.bool false) : AV) .top .top .top .top .top .top .top .top .top .top .top .top .top .top .top .top .top .top) s
noncomputable def S69r11 {R : Type} (call : Nat → List AV → M AV) : W69 → Nat → AS → (W69 → AS → Option R) → Option R := @W69.rec (fun _ => Nat → AS → (W69 → AS → Option R) → Option R) fun x0 x1 x4 x5 x7 x8 x10 x12 x13 x15 x16 x17 x18 x27 x28 x29 x30 x31 x36 x37 x38 x39 x59 x77 base s k =>
  bndP (lenAQ false x1) fun y0 =>
  k (.mk x0 x1 .top x5 .top x8 .top .top .top .top .top .top .top .top x1 y0 ((.int .i64 0) : AV) .top .top .top .top .top .top .top) s
noncomputable def S69r12 {R : Type} (call : Nat → List AV → M AV) : W69 → Nat → AS → (W69 → AS → Option R) → Option R := @W69.rec (fun _ => Nat → AS → (W69 → AS → Option R) → Option R) fun x0 x1 x4 x5 x7 x8 x10 x12 x13 x15 x16 x17 x18 x27 x28 x29 x30 x31 x36 x37 x38 x39 x59 x77 base s k =>
  bndP (binQ .lss x30 x29) fun y0 =>
  k (.mk x0 x1 .top x5 .top x8 .top .top .top .top .top .top .top .top x28 x29 x30 y0 .top .top .top .top .top .top) s
noncomputable def S69r13 {R : Type} (call : Nat → List AV → M AV) : W69 → Nat → AS → (W69 → AS → Option R) → Option R := @W69.rec (fun _ => Nat → AS → (W69 → AS → Option R) → Option R) fun x0 x1 x4 x5 x7 x8 x10 x12 x13 x15 x16 x17 x18 x27 x28 x29 x30 x31 x36 x37 x38 x39 x59 x77 base s k =>
  bndP (idxQ 2 x28 x30) fun y0 =>
  bndP (loadQ true 2 y0 s.h) fun y1 =>
  bndO (newQ (base + 2) (allocB [(.str []), (.str [])] (base + 2)) s) fun y2 s =>
  bndO (storeQ y2 y1 2 s) fun _ s =>
  k (.mk x0 x1 .top x5 .top x8 y2 .top .top .top .top .top .top .top x28 x29 x30 .top .top .top .top .top .top .top) s
noncomputable def S69r14 {R : Type} (call : Nat → List AV → M AV) : W69 → Nat → AS → (W69 → AS → Option R) → Option R := @W69.rec (fun _ => Nat → AS → (W69 → AS → Option R) → Option R) fun x0 x1 x4 x5 x7 x8 x10 x12 x13 x15 x16 x17 x18 x27 x28 x29 x30 x31 x36 x37 x38 x39 x59 x77 base s k =>
  bndP (loadQ true 2 x10 s.h) fun y0 =>
  bndP (lookupA .nils false [true, true] x5 y0 s.h) fun y1 =>
  bndP (lenAQ false y1) fun y2 =>
  k (.mk x0 x1 .top x5 .top x8 x10 .top .top .top .top .top .top .top x28 x29 x30 .top y1 y2 ((.int .i64 0) : AV) .top .top .top) s
noncomputable def S69r15 {R : Type} (call : Nat → List AV → M AV) : W69 → Nat → AS → (W69 → AS → Option R) → Option R := @W69.rec (fun _ => Nat → AS → (W69 → AS → Option R) → Option R) fun x0 x1 x4 x5 x7 x8 x10 x12 x13 x15 x16 x17 x18 x27 x28 x29 x30 x31 x36 x37 x38 x39 x59 x77 base s k =>
  bndP (binQ .lss x38 x37) fun y0 =>
  k (.mk x0 x1 .top x5 .top x8 x10 .top .top .top .top .top .top .top x28 x29 x30 .top x36 x37 x38 y0 .top .top) s
noncomputable def S69r16 {R : Type} (call : Nat → List AV → M AV) : W69 → Nat → AS → (W69 → AS → Option R) → Option R := @W69.rec (fun _ => Nat → AS → (W69 → AS → Option R) → Option R) fun x0 x1 x4 x5 x7 x8 x10 x12 x13 x15 x16 x17 x18 x27 x28 x29 x30 x31 x36 x37 x38 x39 x59 x77 base s k =>
  bndP (idxQ 3 x36 x38) fun y0 =>
  bndP (loadQ true 3 y0 s.h) fun y1 =>
  bndO (newQ (base + 2) (allocB [(.str []), (.str []), (.int .i64 0)] (base + 2)) s) fun y2 s =>
  bndO (storeQ y2 y1 3 s) fun _ s =>
  k (.mk x0 x1 .top x5 .top x8 x10 y2 .top .top .top .top .top .top x28 x29 x30 .top x36 x37 x38 .top .top .top) s
noncomputable def S69r17 {R : Type} (call : Nat → List AV → M AV) : W69 → Nat → AS → (W69 → AS → Option R) → Option R := @W69.rec (fun _ => Nat → AS → (W69 → AS → Option R) → Option R) fun x0 x1 x4 x5 x7 x8 x10 x12 x13 x15 x16 x17 x18 x27 x28 x29 x30 x31 x36 x37 x38 x39 x59 x77 base s k =>
  bndP (nilchkA x0) fun y0 =>
  bndP (fldA 2 y0) fun y1 =>
  bndP (fldA 0 x12) fun y2 =>
  bndP (fldA 2 x12) fun y3 =>
  bndP (loadQ false 1 y1 s.h) fun y4 =>
  bndP (loadQ true 2 y2 s.h) fun y5 =>
  bndP (lookupA (.int .i64 0) false [true, true] y4 y5 s.h) fun y6 =>
  bndP (loadQ false 1 y3 s.h) fun y7 =>
  bndP (binQ .add y6 y7) fun y8 =>
  k (.mk x0 x1 .top x5 .top x8 x10 .top y8 .top .top .top .top .top x28 x29 x30 .top x36 x37 x38 .top .top .top) s
noncomputable def S69r18 {R : Type} (call : Nat → List AV → M AV) : W69 → Nat → AS → (W69 → AS → Option R) → Option R := @W69.rec (fun _ => Nat → AS → (W69 → AS → Option R) → Option R) fun x0 x1 x4 x5 x7 x8 x10 x12 x13 x15 x16 x17 x18 x27 x28 x29 x30 x31 x36 x37 x38 x39 x59 x77 base s k =>
  bndP (nilchkA x0) fun y0 =>
  bndP (fldA 2 y0) fun y1 =>
  bndP (loadQ false 1 y1 s.h) fun y2 =>
  bndP (loadQ true 2 x10 s.h) fun y3 =>
  bndP (lookupA (.int .i64 0) false [true, true] y2 y3 s.h) fun y4 =>
  bndP (binQ .gtr x13 y4) fun y5 =>
  k (.mk x0 x1 .top x5 .top x8 x10 .top x13 .top .top .top .top .top x28 x29 x30 .top x36 x37 x38 .top y5 .top) s
noncomputable def S69r19 {R : Type} (call : Nat → List AV → M AV) : W69 → Nat → AS → (W69 → AS → Option R) → Option R := @W69.rec (fun _ => Nat → AS → (W69 → AS → Option R) → Option R) fun x0 x1 x4 x5 x7 x8 x10 x12 x13 x15 x16 x17 x18 x27 x28 x29 x30 x31 x36 x37 x38 x39 x59 x77 base s k =>
  bndP (nilchkA x0) fun y0 =>
  bndP (fldA 2 y0) fun y1 =>
  bndP (loadQ false 1 y1 s.h) fun y2 =>
  bndP (loadQ true 2 x10 s.h) fun y3 =>
  bndO (mapentA [true, true] (.int .i64 0) y2 y3 s) fun y4 s =>
  bndP (extrQ y4 1) fun y5 =>
  bndO (entsetA y2 y5 x13 s) fun _ s =>
  k (.mk x0 x1 .top x5 .top ((.bool true) : AV) x10 .top .top .top .top .top .top .top x28 x29 x30 .top x36 x37 x38 .top .top .top) s
noncomputable def S69r20 {R : Type} (call : Nat → List AV → M AV) : W69 → Nat → AS → (W69 → AS → Option R) → Option R := @W69.rec (fun _ => Nat → AS → (W69 → AS → Option R) → Option R) fun x0 x1 x4 x5 x7 x8 x10 x12 x13 x15 x16 x17 x18 x27 x28 x29 x30 x31 x36 x37 x38 x39 x59 x77 base s k =>
  bndP (binQ .add x38 ((.int .i64 1) : AV)) fun y0 =>
  k (.mk x0 x1 .top x5 .top x8 x10 .top .top .top .top .top .top .top x28 x29 x30 .top x36 x37 y0 .top .top .top) s
noncomputable def S69b21 {R : Type} (call : Nat → List AV → M AV) (fuel : Nat) : SC W69 W69 R := sSeq (sReg 1 (S69r15 call)) (sSeq (sCond (@W69.rec (fun _ => AV) fun _ _ _ _ _ _ _ _ _ _ _ _ _ _ _ _ _ _ _ _ _ x39 _ _ => x39) (sSkip) (sExit 6)) (sSeq (sBlock 7 (sSeq (sReg 4 (S69r16 call)) (sSeq (sReg 11 (S69r17 call)) (sSeq (sReg 8 (S69r18 call)) (sCond (@W69.rec (fun _ => AV) fun _ _ _ _ _ _ _ _ _ _ _ _ _ _ _ _ _ _ _ _ _ _ x59 _ => x59) (sReg 10 (S69r19 call)) (sSkip)))))) (sReg 2 (S69r20 call))))
noncomputable def S69r22 {R : Type} (call : Nat → List AV → M AV) : W69 → Nat → AS → (W69 → AS → Option R) → Option R := @W69.rec (fun _ => Nat → AS → (W69 → AS → Option R) → Option R) fun x0 x1 x4 x5 x7 x8 x10 x12 x13 x15 x16 x17 x18 x27 x28 x29 x30 x31 x36 x37 x38 x39 x59 x77 base s k =>
  bndP (nilchkA x0) fun y0 =>
  bndP (fldA 2 y0) fun y1 =>
  bndP (lenAQ false x1) fun y2 =>
  bndP (loadQ false 1 y1 s.h) fun y3 =>
  bndP (loadQ true 2 x10 s.h) fun y4 =>
  bndP (lookupA (.int .i64 0) false [true, true] y3 y4 s.h) fun y5 =>
  bndP (binQ .gtr y5 y2) fun y6 =>
  k (.mk x0 x1 .top x5 .top x8 .top .top .top .top .top .top .top .top x28 x29 x30 .top .top .top .top .top .top y6) s
noncomputable def S69r23 {R : Type} (call : Nat → List AV → M AV) : W69 → Nat → AS → (W69 → AS → Option R) → Option R := @W69.rec (fun _ => Nat → AS → (W69 → AS → Option R) → Option R) fun x0 x1 x4 x5 x7 x8 x10 x12 x13 x15 x16 x17 x18 x27 x28 x29 x30 x31 x36 x37 x38 x39 x59 x77 base s k =>
  k (.mk .top .top ((.bool false) : AV) .top .top .top .top .top .top .top .top .top .top .top .top .top .top .top .top .top .top .top .top .top) s
noncomputable def S69r24 {R : Type} (call : Nat → List AV → M AV) : W69 → Nat → AS → (W69 → AS → Option R) → Option R := @W69.rec (fun _ => Nat → AS → (W69 → AS → Option R) → Option R) fun x0 x1 x4 x5 x7 x8 x10 x12 x13 x15 x16 x17 x18 x27 x28 x29 x30 x31 x36 x37 x38 x39 x59 x77 base s k =>
  bndP (binQ .add x30 ((.int .i64 1) : AV)) fun y0 =>
  k (.mk x0 x1 .top x5 .top x8 .top .top .top .top .top .top .top .top x28 x29 y0 .top .top .top .top .top .top .top) s
noncomputable def S69b25 {R : Type} (call : Nat → List AV → M AV) (fuel : Nat) : SC W69 W69 R := sSeq (sReg 1 (S69r12 call)) (sSeq (sCond (@W69.rec (fun _ => AV) fun _ _ _ _ _ _ _ _ _ _ _ _ _ _ _ _ _ x31 _ _ _ _ _ _ => x31) (sSkip) (sExit 4)) (sSeq (sBlock 5 (sSeq (sReg 4 (S69r13 call)) (sSeq (sSeq (sReg 5 (S69r14 call)) (sBlock 6 (sLoop fuel (S69b21 call fuel)))) (sSeq (sReg 9 (S69r22 call)) (sCond (@W69.rec (fun _ => AV) fun _ _ _ _ _ _ _ _ _ _ _ _ _ _ _ _ _ _ _ _ _ _ _ x77 => x77) (sSeq (sReg 1 (S69r23 call)) (sRet)) (sSkip)))))) (sReg 2 (S69r24 call))))
noncomputable def S69b26 {R : Type} (call : Nat → List AV → M AV) (fuel : Nat) : SC W69 W69 R := sSeq (sSeq (sReg 1 (S69r9 call)) (sCond (@W69.rec (fun _ => AV) fun _ _ _ _ _ _ _ _ _ _ _ _ _ x27 _ _ _ _ _ _ _ _ _ _ => x27) (sSkip) (sExit 2))) (sBlock 3 (sSeq (sReg 1 (S69r10 call)) (sSeq (sReg 3 (S69r11 call)) (sBlock 4 (sLoop fuel (S69b25 call fuel))))))
noncomputable def S69r27 {R : Type} (call : Nat → List AV → M AV) : W69 → Nat → AS → (W69 → AS → Option R) → Option R := @W69.rec (fun _ => Nat → AS → (W69 → AS → Option R) → Option R) fun x0 x1 x4 x5 x7 x8 x10 x12 x13 x15 x16 x17 x18 x27 x28 x29 x30 x31 x36 x37 x38 x39 x59 x77 base s k =>
  k (.mk .top .top ((.bool true) : AV) .top .top .top .top .top .top .top .top .top .top .top .top .top .top .top .top .top .top .top .top .top) s
noncomputable def S69c {R : Type} (call : Nat → List AV → M AV) (fuel : Nat) : SC V69 W69 R := sSeq (sReg 1 (S69r0 call)) (sSeq (sReg 2 (S69r1 call)) (sSeq (sSeq (sReg 3 (S69r2 call)) (sBlock 0 (sLoop fuel (S69b7 call fuel)))) (sSeq (sSeq (sReg 1 (S69r8 call)) (sBlock 2 (sLoop fuel (S69b26 call fuel)))) (sSeq (sReg 1 (S69r27 call)) (sRet)))))
noncomputable def S69e : Ex → W69 → AS → Option (AV × AS) := fun e w s => (@W69.rec (fun _ => Option (AV × AS)) fun _ _ x4 _ _ _ _ _ _ _ _ _ _ _ _ _ _ _ _ _ _ _ _ _ => @Ex.rec (fun _ => Option (AV × AS)) (some (x4, s)) (fun _ => none) (some (x4, s)) e) w
noncomputable def S69 (call : Nat → List AV → M AV) (fuel : Nat) (args : List AV) (s : AS) : Option (AV × AS) := match args with
  | [x0, x1] => S69c call fuel (.mk x0 x1) s S69e
  | _ => none
theorem S69_sim (call : Nat → List AV → M AV) (fuel : Nat) : Sim (R := AV × AS) call fuel mi69 mo69 A69.code (S69c call fuel) := by
  refine sim_seq (sim_reg (fun ⟨x0, x1⟩ _ _ _ => by kernel_rfl)) (sim_seq (sim_reg (fun ⟨x0, x1, x4, x5, x7, x8, x10, x12, x13, x15, x16, x17, x18, x27, x28, x29, x30, x31, x36, x37, x38, x39, x59, x77⟩ _ _ _ => by kernel_rfl)) (sim_seq (sim_seq (sim_reg (fun ⟨x0, x1, x4, x5, x7, x8, x10, x12, x13, x15, x16, x17, x18, x27, x28, x29, x30, x31, x36, x37, x38, x39, x59, x77⟩ _ _ _ => by kernel_rfl)) (sim_block (sim_loop (sim_seq (sim_reg (fun ⟨x0, x1, x4, x5, x7, x8, x10, x12, x13, x15, x16, x17, x18, x27, x28, x29, x30, x31, x36, x37, x38, x39, x59, x77⟩ _ _ _ => by kernel_rfl)) (sim_seq (sim_cond (fun ⟨x0, x1, x4, x5, x7, x8, x10, x12, x13, x15, x16, x17, x18, x27, x28, x29, x30, x31, x36, x37, x38, x39, x59, x77⟩ => by kernel_rfl) (sim_skip) (sim_exit)) (sim_seq (sim_block (sim_seq (sim_reg (fun ⟨x0, x1, x4, x5, x7, x8, x10, x12, x13, x15, x16, x17, x18, x27, x28, x29, x30, x31, x36, x37, x38, x39, x59, x77⟩ _ _ _ => by kernel_rfl)) (sim_reg (fun ⟨x0, x1, x4, x5, x7, x8, x10, x12, x13, x15, x16, x17, x18, x27, x28, x29, x30, x31, x36, x37, x38, x39, x59, x77⟩ _ _ _ => by kernel_rfl)))) (sim_reg (fun ⟨x0, x1, x4, x5, x7, x8, x10, x12, x13, x15, x16, x17, x18, x27, x28, x29, x30, x31, x36, x37, x38, x39, x59, x77⟩ _ _ _ => by kernel_rfl)))))))) (sim_seq (sim_seq (sim_reg (fun ⟨x0, x1, x4, x5, x7, x8, x10, x12, x13, x15, x16, x17, x18, x27, x28, x29, x30, x31, x36, x37, x38, x39, x59, x77⟩ _ _ _ => by kernel_rfl)) (sim_block (sim_loop (sim_seq (sim_seq (sim_reg (fun ⟨x0, x1, x4, x5, x7, x8, x10, x12, x13, x15, x16, x17, x18, x27, x28, x29, x30, x31, x36, x37, x38, x39, x59, x77⟩ _ _ _ => by kernel_rfl)) (sim_cond (fun ⟨x0, x1, x4, x5, x7, x8, x10, x12, x13, x15, x16, x17, x18, x27, x28, x29, x30, x31, x36, x37, x38, x39, x59, x77⟩ => by kernel_rfl) (sim_skip) (sim_exit))) (sim_block (sim_seq (sim_reg (fun ⟨x0, x1, x4, x5, x7, x8, x10, x12, x13, x15, x16, x17, x18, x27, x28, x29, x30, x31, x36, x37, x38, x39, x59, x77⟩ _ _ _ => by kernel_rfl)) (sim_seq (sim_reg (fun ⟨x0, x1, x4, x5, x7, x8, x10, x12, x13, x15, x16, x17, x18, x27, x28, x29, x30, x31, x36, x37, x38, x39, x59, x77⟩ _ _ _ => by kernel_rfl)) (sim_block (sim_loop (sim_seq (sim_reg (fun ⟨x0, x1, x4, x5, x7, x8, x10, x12, x13, x15, x16, x17, x18, x27, x28, x29, x30, x31, x36, x37, x38, x39, x59, x77⟩ _ _ _ => by kernel_rfl)) (sim_seq (sim_cond (fun ⟨x0, x1, x4, x5, x7, x8, x10, x12, x13, x15, x16, x17, x18, x27, x28, x29, x30, x31, x36, x37, x38, x39, x59, x77⟩ => by kernel_rfl) (sim_skip) (sim_exit)) (sim_seq (sim_block (sim_seq (sim_reg (fun ⟨x0, x1, x4, x5, x7, x8, x10, x12, x13, x15, x16, x17, x18, x27, x28, x29, x30, x31, x36, x37, x38, x39, x59, x77⟩ _ _ _ => by kernel_rfl)) (sim_seq (sim_seq (sim_reg (fun ⟨x0, x1, x4, x5, x7, x8, x10, x12, x13, x15, x16, x17, x18, x27, x28, x29, x30, x31, x36, x37, x38, x39, x59, x77⟩ _ _ _ => by kernel_rfl)) (sim_block (sim_loop (sim_seq (sim_reg (fun ⟨x0, x1, x4, x5, x7, x8, x10, x12, x13, x15, x16, x17, x18, x27, x28, x29, x30, x31, x36, x37, x38, x39, x59, x77⟩ _ _ _ => by kernel_rfl)) (sim_seq (sim_cond (fun ⟨x0, x1, x4, x5, x7, x8, x10, x12, x13, x15, x16, x17, x18, x27, x28, x29, x30, x31, x36, x37, x38, x39, x59, x77⟩ => by kernel_rfl) (sim_skip) (sim_exit)) (sim_seq (sim_block (sim_seq (sim_reg (fun ⟨x0, x1, x4, x5, x7, x8, x10, x12, x13, x15, x16, x17, x18, x27, x28, x29, x30, x31, x36, x37, x38, x39, x59, x77⟩ _ _ _ => by kernel_rfl)) (sim_seq (sim_reg (fun ⟨x0, x1, x4, x5, x7, x8, x10, x12, x13, x15, x16, x17, x18, x27, x28, x29, x30, x31, x36, x37, x38, x39, x59, x77⟩ _ _ _ => by kernel_rfl)) (sim_seq (sim_reg (fun ⟨x0, x1, x4, x5, x7, x8, x10, x12, x13, x15, x16, x17, x18, x27, x28, x29, x30, x31, x36, x37, x38, x39, x59, x77⟩ _ _ _ => by kernel_rfl)) (sim_cond (fun ⟨x0, x1, x4, x5, x7, x8, x10, x12, x13, x15, x16, x17, x18, x27, x28, x29, x30, x31, x36, x37, x38, x39, x59, x77⟩ => by kernel_rfl) (sim_reg (fun ⟨x0, x1, x4, x5, x7, x8, x10, x12, x13, x15, x16, x17, x18, x27, x28, x29, x30, x31, x36, x37, x38, x39, x59, x77⟩ _ _ _ => by kernel_rfl)) (sim_skip)))))) (sim_reg (fun ⟨x0, x1, x4, x5, x7, x8, x10, x12, x13, x15, x16, x17, x18, x27, x28, x29, x30, x31, x36, x37, x38, x39, x59, x77⟩ _ _ _ => by kernel_rfl)))))))) (sim_seq (sim_reg (fun ⟨x0, x1, x4, x5, x7, x8, x10, x12, x13, x15, x16, x17, x18, x27, x28, x29, x30, x31, x36, x37, x38, x39, x59, x77⟩ _ _ _ => by kernel_rfl)) (sim_cond (fun ⟨x0, x1, x4, x5, x7, x8, x10, x12, x13, x15, x16, x17, x18, x27, x28, x29, x30, x31, x36, x37, x38, x39, x59, x77⟩ => by kernel_rfl) (sim_seq (sim_reg (fun ⟨x0, x1, x4, x5, x7, x8, x10, x12, x13, x15, x16, x17, x18, x27, x28, x29, x30, x31, x36, x37, x38, x39, x59, x77⟩ _ _ _ => by kernel_rfl)) (sim_ret)) (sim_skip)))))) (sim_reg (fun ⟨x0, x1, x4, x5, x7, x8, x10, x12, x13, x15, x16, x17, x18, x27, x28, x29, x30, x31, x36, x37, x38, x39, x59, x77⟩ _ _ _ => by kernel_rfl)))))))))))))) (sim_seq (sim_reg (fun ⟨x0, x1, x4, x5, x7, x8, x10, x12, x13, x15, x16, x17, x18, x27, x28, x29, x30, x31, x36, x37, x38, x39, x59, x77⟩ _ _ _ => by kernel_rfl)) (sim_ret)))))
theorem S69_ok (call : Nat → List AV → M AV) (fuel : Nat) (args : List AV) (s : AS) : afn call fuel A69 args s = S69 call fuel args s := by
  rcases args with _ | ⟨x0, _ | ⟨x1, _ | ⟨x2, r⟩⟩⟩
  · kernel_rfl
  · kernel_rfl
  · exact (afn_sim (S69_sim call fuel) (v := (.mk x0 x1)) (e2 := S69e) (by kernel_rfl) (by kernel_rfl) (fun e w s => by cases w; cases e <;> kernel_rfl)).trans (by kernel_rfl)
  · kernel_rfl
end Go.Proofs.Ytgcciohenncplaa.Ai
