/- Functions of the given program as plain Lean functions, and their contracts: written by a program of the prover. -/
import Derived.Test.YtjmlloiolppoiaaPx0
import Derived.Test.YtjmlloiolppoiaaPx1
import Derived.Test.YtjmlloiolppoiaaPx2
import Derived.Test.YtjmlloiolppoiaaPx11
import Derived.Test.YtjmlloiolppoiaaPx12
import Derived.Test.YtjmlloiolppoiaaPx14
import Derived.Test.YtjmlloiolppoiaaPx15
namespace Go.Proofs.Ytjmlloiolppoiaa.P
open Go.RowKit Go.Proofs.YtjmlloiolppoiaaW.PrintWords Go.Proofs.YtjmlloiolppoiaaW.PrintLast Go.Proofs.YtjmlloiolppoiaaW.PrintMore
attribute [local go_sem] max2_int min2_int max_two min_two max_three min_three max_four min_four   -- for this text's walks alone
set_option linter.unusedVariables false
set_option linter.unusedSimpArgs false

attribute [local go_sem high] eqA29
/-- A call of a Go function by a value that a variable holds, by its contract. -/
theorem goesv_ {P : Program} {ops : Array Oper} {Q : Exit → Act → World → Prop} {oi : Oper} {N : Option Tmp} {a : Act} {w : World} {K : Act → World → Prop} {f : FuncId} {fn : Func} {asl : Array Operand} {ts : Array TypeId} {cal : Operand} (hf : P.funcs[f]? = some fn) (hname : (fn.name == "runtime.NumGoroutine") = false) (hb : fn.body.isSome = true) (args : Array Value)
    (hw : Region.wanted oi (yielded ops a.tmps) = true) (hN : oi.dst = N) (hop : oi.op = .call { callee := .value cal, args := asl, argTypes := ts }) (hcal : a.eval cal = .func (.func f) #[] #[]) (hargs : asl.map a.eval = args)
    (h : Calls P f args w fun e w' => ∃ v, e = .returned v ∧ K (a.put N v) w') : if Region.wanted oi (yielded ops a.tmps) = true then Oper.wp P oi a w K Q else K (a.put N undef) w := by
  refine call_ f args hw hN ?_ h
  have he := enters_ hf hname hb args w
  unfold execOp
  simp [hop, resolve, Deferred.ofValue, invoke, hcal, hargs, he]

/-! ### entaillaw2_TuplParts: function 4 -/
def entaillaw2_TuplParts.j0 : Nat → Int → Int → Int → Int → ByteArray → ByteArray → ByteArray → ByteArray → ByteArray → ByteArray → ByteArray → ByteArray → ByteArray → ByteArray → ByteArray → ByteArray → Option (Bool)
  | 0, _, _, _, _, _, _, _, _, _, _, _, _, _, _, _, _ => none
  | k + 1, x0, x1, x2, x3, x275000, x275001, x275002, x275003, x275004, x275005, x276000, x276001, x276002, x276003, x276004, x276005 => (tupl_Text.f k x276000 x276001 x276002 x276003 x276004 x276005).bind fun t276 => ((tupl_Parse.f k t276).bind fun bt277 => ((tupl_Text.f k x275000 x275001 x275002 x275003 x275004 x275005).bind fun t285 => ((entaillaw1_Nm.f x0).bind fun t286 => (if t286.size + 1 ≤ 9223372036854775807 then ((entaillaw1_Nm.f x1).bind fun t287 => (if (t286 ++ (⟨#[58]⟩ : ByteArray)).size + t287.size ≤ 9223372036854775807 then (if ((t286 ++ (⟨#[58]⟩ : ByteArray)) ++ t287).size + 1 ≤ 9223372036854775807 then ((entaillaw1_Nm.f x2).bind fun t288 => (if (((t286 ++ (⟨#[58]⟩ : ByteArray)) ++ t287) ++ (⟨#[35]⟩ : ByteArray)).size + t288.size ≤ 9223372036854775807 then (if ((((t286 ++ (⟨#[58]⟩ : ByteArray)) ++ t287) ++ (⟨#[35]⟩ : ByteArray)) ++ t288).size + 1 ≤ 9223372036854775807 then ((entaillaw1_Nm.f x3).bind fun t289 => (if (((((t286 ++ (⟨#[58]⟩ : ByteArray)) ++ t287) ++ (⟨#[35]⟩ : ByteArray)) ++ t288) ++ (⟨#[64]⟩ : ByteArray)).size + t289.size ≤ 9223372036854775807 then (if ((((((t286 ++ (⟨#[58]⟩ : ByteArray)) ++ t287) ++ (⟨#[35]⟩ : ByteArray)) ++ t288) ++ (⟨#[64]⟩ : ByteArray)) ++ t289).size + 1 ≤ 9223372036854775807 then ((entaillaw1_Nm.f (wrap64 (x0 + x1))).bind fun t290 => (if (((((((t286 ++ (⟨#[58]⟩ : ByteArray)) ++ t287) ++ (⟨#[35]⟩ : ByteArray)) ++ t288) ++ (⟨#[64]⟩ : ByteArray)) ++ t289) ++ (⟨#[58]⟩ : ByteArray)).size + t290.size ≤ 9223372036854775807 then (if ((((((((t286 ++ (⟨#[58]⟩ : ByteArray)) ++ t287) ++ (⟨#[35]⟩ : ByteArray)) ++ t288) ++ (⟨#[64]⟩ : ByteArray)) ++ t289) ++ (⟨#[58]⟩ : ByteArray)) ++ t290).size + 1 ≤ 9223372036854775807 then ((entaillaw1_Nm.f (wrap64 (x2 + x3))).bind fun t291 => (if (((((((((t286 ++ (⟨#[58]⟩ : ByteArray)) ++ t287) ++ (⟨#[35]⟩ : ByteArray)) ++ t288) ++ (⟨#[64]⟩ : ByteArray)) ++ t289) ++ (⟨#[58]⟩ : ByteArray)) ++ t290) ++ (⟨#[35]⟩ : ByteArray)).size + t291.size ≤ 9223372036854775807 then (if t285.toList = ((((((((((t286 ++ (⟨#[58]⟩ : ByteArray)) ++ t287) ++ (⟨#[35]⟩ : ByteArray)) ++ t288) ++ (⟨#[64]⟩ : ByteArray)) ++ t289) ++ (⟨#[58]⟩ : ByteArray)) ++ t290) ++ (⟨#[35]⟩ : ByteArray)) ++ t291).toList then ((tupl_Text.f k x276000 x276001 x276002 x276003 x276004 x276005).bind fun t292 => ((tupl_Text.f k x275000 x275001 x275002 x275003 x275004 x275005).bind fun t293 => (if t292.toList = t293.toList then (none) else (if bt277.2.2.2.2.2.2 = true then (if ((bt277.1.toList == x276000.toList && (bt277.2.1.toList == x276001.toList)) && (bt277.2.2.1.toList == x276002.toList && ((bt277.2.2.2.1.toList == x276003.toList && (bt277.2.2.2.2.1.toList == x276004.toList && (bt277.2.2.2.2.2.1.toList == x276005.toList)))))) = true then ((tupl_Less.f k x275000 x275001 x275002 x275003 x275004 x275005 x276000 x276001 x276002 x276003 x276004 x276005).bind fun t294 => ((tupl_Less.f k x276000 x276001 x276002 x276003 x276004 x276005 x275000 x275001 x275002 x275003 x275004 x275005).bind fun t295 => (if (t294 != t295) = true then ((entaillaw2_awake.f k).bind fun t296 => (some t296)) else (none)))) else (none)) else (none))))) else (none)) else (none))) else (none)) else (none))) else (none)) else (none))) else (none)) else (none))) else (none)) else (none))) else (none)))))
def entaillaw2_TuplParts.f (k : Nat) (a0 : Int) (a1 : Int) (a2 : Int) (a3 : Int) (a4 : Int) : Option (Bool) := (entaillaw1_Nm.f a0).bind fun t268 => ((entaillaw1_Nm.f a1).bind fun t269 => ((entaillaw1_Nm.f a2).bind fun t270 => ((entaillaw1_Nm.f a3).bind fun t271 => ((entaillaw1_Nm.f (wrap64 (a0 + a1))).bind fun t272 => ((entaillaw1_Nm.f (wrap64 (a2 + a3))).bind fun t273 => (if (Int.tmod (Go.bits .and .i64 a4 255) 6) = 0 then (if t268.size + 1 ≤ 9223372036854775807 then (entaillaw2_TuplParts.j0 k a0 a1 a2 a3 t268 t269 t270 t271 t272 t273 (t268 ++ (⟨#[122]⟩ : ByteArray)) t269 t270 t271 t272 t273) else (none)) else (if (Int.tmod (Go.bits .and .i64 a4 255) 6) = 1 then (if t269.size + 1 ≤ 9223372036854775807 then (entaillaw2_TuplParts.j0 k a0 a1 a2 a3 t268 t269 t270 t271 t272 t273 t268 (t269 ++ (⟨#[47]⟩ : ByteArray)) t270 t271 t272 t273) else (none)) else (if (Int.tmod (Go.bits .and .i64 a4 255) 6) = 2 then (if t270.size + 1 ≤ 9223372036854775807 then (entaillaw2_TuplParts.j0 k a0 a1 a2 a3 t268 t269 t270 t271 t272 t273 t268 t269 (t270 ++ (⟨#[122]⟩ : ByteArray)) t271 t272 t273) else (none)) else (if (Int.tmod (Go.bits .and .i64 a4 255) 6) = 3 then (if t271.size + 1 ≤ 9223372036854775807 then (entaillaw2_TuplParts.j0 k a0 a1 a2 a3 t268 t269 t270 t271 t272 t273 t268 t269 t270 (t271 ++ (⟨#[122]⟩ : ByteArray)) t272 t273) else (none)) else (if (Int.tmod (Go.bits .and .i64 a4 255) 6) = 4 then (if t272.size + 1 ≤ 9223372036854775807 then (entaillaw2_TuplParts.j0 k a0 a1 a2 a3 t268 t269 t270 t271 t272 t273 t268 t269 t270 t271 (t272 ++ (⟨#[42]⟩ : ByteArray)) t273) else (none)) else (entaillaw2_TuplParts.j0 k a0 a1 a2 a3 t268 t269 t270 t271 t272 t273 t268 t269 t270 t271 t272 (⟨#[]⟩ : ByteArray))))))))))))
theorem entaillaw2_TuplParts.mono_l : ∀ k, (∀ y0 y1 y2 y3 y4 y5 y6 y7 y8 y9 y10 y11 y12 y13 y14 y15, LeO (entaillaw2_TuplParts.j0 k y0 y1 y2 y3 y4 y5 y6 y7 y8 y9 y10 y11 y12 y13 y14 y15) (entaillaw2_TuplParts.j0 (k + 1) y0 y1 y2 y3 y4 y5 y6 y7 y8 y9 y10 y11 y12 y13 y14 y15))
  | 0 => fun _ _ _ _ _ _ _ _ _ _ _ _ _ _ _ _ r h => by simp [entaillaw2_TuplParts.j0] at h
  | k + 1 => by
    have ih0 := entaillaw2_TuplParts.mono_l k
    · intro y0 y1 y2 y3 y4 y5 y6 y7 y8 y9 y10 y11 y12 y13 y14 y15
      unfold entaillaw2_TuplParts.j0
      repeat' first
      | (with_reducible exact ih0 _ _ _ _ _ _ _ _ _ _ _ _ _ _ _ _)
      | (with_reducible exact entaillaw2_awake.mono _)
      | (with_reducible exact tupl_Less.mono _ _ _ _ _ _ _ _ _ _ _ _ _)
      | (with_reducible exact tupl_Parse.mono _ _)
      | (with_reducible exact tupl_Text.mono _ _ _ _ _ _ _)
      | (with_reducible exact LeO.refl _)
      | (with_reducible exact LeO.none _)
      | (with_reducible refine LeO.ite ?_ ?_)
      | (with_reducible refine LeO.bind ?_ (fun _ => ?_))
      | exact ih0 _ _ _ _ _ _ _ _ _ _ _ _ _ _ _ _
      | exact entaillaw2_awake.mono _
      | exact tupl_Less.mono _ _ _ _ _ _ _ _ _ _ _ _ _
      | exact tupl_Parse.mono _ _
      | exact tupl_Text.mono _ _ _ _ _ _ _
      | exact LeO.none _
      | refine LeO.ite ?_ ?_
      | refine LeO.bind ?_ (fun _ => ?_)
theorem entaillaw2_TuplParts.mono : ∀ a0 a1 a2 a3 a4 k, LeO (entaillaw2_TuplParts.f k a0 a1 a2 a3 a4) (entaillaw2_TuplParts.f (k + 1) a0 a1 a2 a3 a4) := by
  intro a0 a1 a2 a3 a4 k
  have ih0 := entaillaw2_TuplParts.mono_l k
  unfold entaillaw2_TuplParts.f
  repeat' first
      | (with_reducible exact ih0 _ _ _ _ _ _ _ _ _ _ _ _ _ _ _ _)
      | (with_reducible exact entaillaw2_awake.mono _)
      | (with_reducible exact tupl_Less.mono _ _ _ _ _ _ _ _ _ _ _ _ _)
      | (with_reducible exact tupl_Parse.mono _ _)
      | (with_reducible exact tupl_Text.mono _ _ _ _ _ _ _)
      | (with_reducible exact LeO.refl _)
      | (with_reducible exact LeO.none _)
      | (with_reducible refine LeO.ite ?_ ?_)
      | (with_reducible refine LeO.bind ?_ (fun _ => ?_))
      | exact ih0 _ _ _ _ _ _ _ _ _ _ _ _ _ _ _ _
      | exact entaillaw2_awake.mono _
      | exact tupl_Less.mono _ _ _ _ _ _ _ _ _ _ _ _ _
      | exact tupl_Parse.mono _ _
      | exact tupl_Text.mono _ _ _ _ _ _ _
      | exact LeO.none _
      | refine LeO.ite ?_ ?_
      | refine LeO.bind ?_ (fun _ => ?_)
def entaillaw2_TuplParts.T17 : Bool × List (List Nat × List Nat) := (true, [([], []), ([0], [0]), ([], []), ([], []), ([2, 3, 1], [2, 3]), ([4], [4]), ([], []), ([], []), ([6, 7, 4], [6, 7]), ([5, 8], [5, 8]), ([9], [9]), ([], []), ([], []), ([11, 12, 8], [11, 12]), ([10, 13], [10, 13]), ([14], [14]), ([], []), ([], []), ([16, 17, 13], [16, 17]), ([15, 18], [15, 18]), ([19], [19]), ([], []), ([], []), ([], []), ([22, 23], [22, 23]), ([21, 24, 18], [21, 24]), ([20, 25], [20, 25]), ([26], [26]), ([], []), ([], []), ([], []), ([29, 30], [29, 30]), ([28, 31, 25], [28, 31]), ([27, 32], [27, 32]), ([1, 33], [1, 33]), ([34, 32], [34]), ([35], [35]), ([36, 35, 35], [35, 36]), ([35], [35]), ([38, 37, 35], [35, 38]), ([37, 39, 35], [35, 37, 39]), ([35, 40], [35, 40]), ([41, 39], [41]), ([42], [42]), ([42, 43], [42, 43]), ([44, 42], [44]), ([45], [45]), ([45], [45]), ([46, 47, 45], [45, 46, 47]), ([45, 48], [45, 48]), ([49, 45], [49]), ([50], [50]), ([50], [50]), ([51, 52, 50, 50], [50, 51, 52]), ([50], [50]), ([50], [50]), ([54, 55, 53, 50], [50, 54, 55]), ([53, 56, 50], [50, 53, 56]), ([50, 57], [50, 57]), ([58, 56], [58]), ([59, 59], [59]), ([59, 60], [59, 60]), ([61, 60, 0, 1, 2, 3, 4, 5, 6, 7, 8, 9, 10, 11, 12, 13, 14, 15, 16, 17, 18, 19, 20, 21, 22, 23, 24, 25, 26, 27, 28, 29, 30, 31, 32, 33, 34, 35, 36, 37, 38, 39, 40, 41, 42, 43, 44, 45, 46, 47, 48, 49, 50, 51, 52, 53, 54, 55, 56, 57, 58, 59, 60, 61], [61])])
def entaillaw2_TuplParts.B17 : List Nat := [0, 1, 0, 0, 15, 31, 0, 0, 223, 511, 1023, 0, 0, 6623, 16383, 32767, 0, 0, 211423, 524287, 1048575, 0, 0, 0, 12582912, 31930847, 67108863, 134217727, 0, 0, 0, 1610612736, 4092017119, 8589934591, 17179869183, 34359738367, 68719476735, 137438953471, 68719476735, 549755813887, 1099511627775, 2199023255551, 4398046511103, 8796093022207, 17592186044415, 35184372088831, 70368744177663, 70368744177663, 281474976710655, 562949953421311, 1125899906842623, 2251799813685247, 2251799813685247, 9007199254740991, 2251799813685247, 2251799813685247, 72057594037927935, 144115188075855871, 288230376151711743, 576460752303423487, 1152921504606846975, 2305843009213693951, 4611686018427387903]
theorem entaillaw2_TuplParts.tab17 : rtab .any (opsOf Try.f4 17) = entaillaw2_TuplParts.T17 := by kernel_rfl
theorem entaillaw2_TuplParts.bits17 : waitsOk entaillaw2_TuplParts.T17.2 entaillaw2_TuplParts.B17 = true := by kernel_rfl
set_option maxHeartbeats 8000000 in
set_option maxRecDepth 100000 in
theorem entaillaw2_TuplParts.calls (k : Nat) (a0 : Int) (a1 : Int) (a2 : Int) (a3 : Int) (a4 : Int) (r : Bool) (w : World) (h : entaillaw2_TuplParts.f k a0 a1 a2 a3 a4 = some r) :
    Calls Try.prog 4 #[.int .i64 a0, .int .i64 a1, .int .i64 a2, .int .i64 a3, .int .i64 a4] w fun e w' => e = .returned (.bool r) ∧ Below w.heap.size w w' := by
  have hu25 := Try.underlying25
  have hu27 := Try.underlying27
  have hu29 := Try.underlying29
  have HB := Aside0.mk (Below.refl w.heap.size w)
  have H : ((entaillaw1_Nm.f a0).bind fun t268 => ((entaillaw1_Nm.f a1).bind fun t269 => ((entaillaw1_Nm.f a2).bind fun t270 => ((entaillaw1_Nm.f a3).bind fun t271 => ((entaillaw1_Nm.f (wrap64 (a0 + a1))).bind fun t272 => ((entaillaw1_Nm.f (wrap64 (a2 + a3))).bind fun t273 => (if (Int.tmod (Go.bits .and .i64 a4 255) 6) = 0 then (if t268.size + 1 ≤ 9223372036854775807 then (entaillaw2_TuplParts.j0 k a0 a1 a2 a3 t268 t269 t270 t271 t272 t273 (t268 ++ (⟨#[122]⟩ : ByteArray)) t269 t270 t271 t272 t273) else (none)) else (if (Int.tmod (Go.bits .and .i64 a4 255) 6) = 1 then (if t269.size + 1 ≤ 9223372036854775807 then (entaillaw2_TuplParts.j0 k a0 a1 a2 a3 t268 t269 t270 t271 t272 t273 t268 (t269 ++ (⟨#[47]⟩ : ByteArray)) t270 t271 t272 t273) else (none)) else (if (Int.tmod (Go.bits .and .i64 a4 255) 6) = 2 then (if t270.size + 1 ≤ 9223372036854775807 then (entaillaw2_TuplParts.j0 k a0 a1 a2 a3 t268 t269 t270 t271 t272 t273 t268 t269 (t270 ++ (⟨#[122]⟩ : ByteArray)) t271 t272 t273) else (none)) else (if (Int.tmod (Go.bits .and .i64 a4 255) 6) = 3 then (if t271.size + 1 ≤ 9223372036854775807 then (entaillaw2_TuplParts.j0 k a0 a1 a2 a3 t268 t269 t270 t271 t272 t273 t268 t269 t270 (t271 ++ (⟨#[122]⟩ : ByteArray)) t272 t273) else (none)) else (if (Int.tmod (Go.bits .and .i64 a4 255) 6) = 4 then (if t272.size + 1 ≤ 9223372036854775807 then (entaillaw2_TuplParts.j0 k a0 a1 a2 a3 t268 t269 t270 t271 t272 t273 t268 t269 t270 t271 (t272 ++ (⟨#[42]⟩ : ByteArray)) t273) else (none)) else (entaillaw2_TuplParts.j0 k a0 a1 a2 a3 t268 t269 t270 t271 t272 t273 t268 t269 t270 t271 t272 (⟨#[]⟩ : ByteArray))))))))))))) = some r := h
  clear h
  replace H := Option.bind_eq_some_iff.mp H
  obtain ⟨t268, A60, H⟩ := H
  replace H : ((entaillaw1_Nm.f a1).bind fun t269 => ((entaillaw1_Nm.f a2).bind fun t270 => ((entaillaw1_Nm.f a3).bind fun t271 => ((entaillaw1_Nm.f (wrap64 (a0 + a1))).bind fun t272 => ((entaillaw1_Nm.f (wrap64 (a2 + a3))).bind fun t273 => (if (Int.tmod (Go.bits .and .i64 a4 255) 6) = 0 then (if t268.size + 1 ≤ 9223372036854775807 then (entaillaw2_TuplParts.j0 k a0 a1 a2 a3 t268 t269 t270 t271 t272 t273 (t268 ++ (⟨#[122]⟩ : ByteArray)) t269 t270 t271 t272 t273) else (none)) else (if (Int.tmod (Go.bits .and .i64 a4 255) 6) = 1 then (if t269.size + 1 ≤ 9223372036854775807 then (entaillaw2_TuplParts.j0 k a0 a1 a2 a3 t268 t269 t270 t271 t272 t273 t268 (t269 ++ (⟨#[47]⟩ : ByteArray)) t270 t271 t272 t273) else (none)) else (if (Int.tmod (Go.bits .and .i64 a4 255) 6) = 2 then (if t270.size + 1 ≤ 9223372036854775807 then (entaillaw2_TuplParts.j0 k a0 a1 a2 a3 t268 t269 t270 t271 t272 t273 t268 t269 (t270 ++ (⟨#[122]⟩ : ByteArray)) t271 t272 t273) else (none)) else (if (Int.tmod (Go.bits .and .i64 a4 255) 6) = 3 then (if t271.size + 1 ≤ 9223372036854775807 then (entaillaw2_TuplParts.j0 k a0 a1 a2 a3 t268 t269 t270 t271 t272 t273 t268 t269 t270 (t271 ++ (⟨#[122]⟩ : ByteArray)) t272 t273) else (none)) else (if (Int.tmod (Go.bits .and .i64 a4 255) 6) = 4 then (if t272.size + 1 ≤ 9223372036854775807 then (entaillaw2_TuplParts.j0 k a0 a1 a2 a3 t268 t269 t270 t271 t272 t273 t268 t269 t270 t271 (t272 ++ (⟨#[42]⟩ : ByteArray)) t273) else (none)) else (entaillaw2_TuplParts.j0 k a0 a1 a2 a3 t268 t269 t270 t271 t272 t273 t268 t269 t270 t271 t272 (⟨#[]⟩ : ByteArray)))))))))))) = some r := H
  have A6 := Aside0.mk A60
  clear A60
  replace H := Option.bind_eq_some_iff.mp H
  obtain ⟨t269, A70, H⟩ := H
  replace H : ((entaillaw1_Nm.f a2).bind fun t270 => ((entaillaw1_Nm.f a3).bind fun t271 => ((entaillaw1_Nm.f (wrap64 (a0 + a1))).bind fun t272 => ((entaillaw1_Nm.f (wrap64 (a2 + a3))).bind fun t273 => (if (Int.tmod (Go.bits .and .i64 a4 255) 6) = 0 then (if t268.size + 1 ≤ 9223372036854775807 then (entaillaw2_TuplParts.j0 k a0 a1 a2 a3 t268 t269 t270 t271 t272 t273 (t268 ++ (⟨#[122]⟩ : ByteArray)) t269 t270 t271 t272 t273) else (none)) else (if (Int.tmod (Go.bits .and .i64 a4 255) 6) = 1 then (if t269.size + 1 ≤ 9223372036854775807 then (entaillaw2_TuplParts.j0 k a0 a1 a2 a3 t268 t269 t270 t271 t272 t273 t268 (t269 ++ (⟨#[47]⟩ : ByteArray)) t270 t271 t272 t273) else (none)) else (if (Int.tmod (Go.bits .and .i64 a4 255) 6) = 2 then (if t270.size + 1 ≤ 9223372036854775807 then (entaillaw2_TuplParts.j0 k a0 a1 a2 a3 t268 t269 t270 t271 t272 t273 t268 t269 (t270 ++ (⟨#[122]⟩ : ByteArray)) t271 t272 t273) else (none)) else (if (Int.tmod (Go.bits .and .i64 a4 255) 6) = 3 then (if t271.size + 1 ≤ 9223372036854775807 then (entaillaw2_TuplParts.j0 k a0 a1 a2 a3 t268 t269 t270 t271 t272 t273 t268 t269 t270 (t271 ++ (⟨#[122]⟩ : ByteArray)) t272 t273) else (none)) else (if (Int.tmod (Go.bits .and .i64 a4 255) 6) = 4 then (if t272.size + 1 ≤ 9223372036854775807 then (entaillaw2_TuplParts.j0 k a0 a1 a2 a3 t268 t269 t270 t271 t272 t273 t268 t269 t270 t271 (t272 ++ (⟨#[42]⟩ : ByteArray)) t273) else (none)) else (entaillaw2_TuplParts.j0 k a0 a1 a2 a3 t268 t269 t270 t271 t272 t273 t268 t269 t270 t271 t272 (⟨#[]⟩ : ByteArray))))))))))) = some r := H
  have A7 := Aside0.mk A70
  clear A70
  replace H := Option.bind_eq_some_iff.mp H
  obtain ⟨t270, A80, H⟩ := H
  replace H : ((entaillaw1_Nm.f a3).bind fun t271 => ((entaillaw1_Nm.f (wrap64 (a0 + a1))).bind fun t272 => ((entaillaw1_Nm.f (wrap64 (a2 + a3))).bind fun t273 => (if (Int.tmod (Go.bits .and .i64 a4 255) 6) = 0 then (if t268.size + 1 ≤ 9223372036854775807 then (entaillaw2_TuplParts.j0 k a0 a1 a2 a3 t268 t269 t270 t271 t272 t273 (t268 ++ (⟨#[122]⟩ : ByteArray)) t269 t270 t271 t272 t273) else (none)) else (if (Int.tmod (Go.bits .and .i64 a4 255) 6) = 1 then (if t269.size + 1 ≤ 9223372036854775807 then (entaillaw2_TuplParts.j0 k a0 a1 a2 a3 t268 t269 t270 t271 t272 t273 t268 (t269 ++ (⟨#[47]⟩ : ByteArray)) t270 t271 t272 t273) else (none)) else (if (Int.tmod (Go.bits .and .i64 a4 255) 6) = 2 then (if t270.size + 1 ≤ 9223372036854775807 then (entaillaw2_TuplParts.j0 k a0 a1 a2 a3 t268 t269 t270 t271 t272 t273 t268 t269 (t270 ++ (⟨#[122]⟩ : ByteArray)) t271 t272 t273) else (none)) else (if (Int.tmod (Go.bits .and .i64 a4 255) 6) = 3 then (if t271.size + 1 ≤ 9223372036854775807 then (entaillaw2_TuplParts.j0 k a0 a1 a2 a3 t268 t269 t270 t271 t272 t273 t268 t269 t270 (t271 ++ (⟨#[122]⟩ : ByteArray)) t272 t273) else (none)) else (if (Int.tmod (Go.bits .and .i64 a4 255) 6) = 4 then (if t272.size + 1 ≤ 9223372036854775807 then (entaillaw2_TuplParts.j0 k a0 a1 a2 a3 t268 t269 t270 t271 t272 t273 t268 t269 t270 t271 (t272 ++ (⟨#[42]⟩ : ByteArray)) t273) else (none)) else (entaillaw2_TuplParts.j0 k a0 a1 a2 a3 t268 t269 t270 t271 t272 t273 t268 t269 t270 t271 t272 (⟨#[]⟩ : ByteArray)))))))))) = some r := H
  have A8 := Aside0.mk A80
  clear A80
  replace H := Option.bind_eq_some_iff.mp H
  obtain ⟨t271, A90, H⟩ := H
  replace H : ((entaillaw1_Nm.f (wrap64 (a0 + a1))).bind fun t272 => ((entaillaw1_Nm.f (wrap64 (a2 + a3))).bind fun t273 => (if (Int.tmod (Go.bits .and .i64 a4 255) 6) = 0 then (if t268.size + 1 ≤ 9223372036854775807 then (entaillaw2_TuplParts.j0 k a0 a1 a2 a3 t268 t269 t270 t271 t272 t273 (t268 ++ (⟨#[122]⟩ : ByteArray)) t269 t270 t271 t272 t273) else (none)) else (if (Int.tmod (Go.bits .and .i64 a4 255) 6) = 1 then (if t269.size + 1 ≤ 9223372036854775807 then (entaillaw2_TuplParts.j0 k a0 a1 a2 a3 t268 t269 t270 t271 t272 t273 t268 (t269 ++ (⟨#[47]⟩ : ByteArray)) t270 t271 t272 t273) else (none)) else (if (Int.tmod (Go.bits .and .i64 a4 255) 6) = 2 then (if t270.size + 1 ≤ 9223372036854775807 then (entaillaw2_TuplParts.j0 k a0 a1 a2 a3 t268 t269 t270 t271 t272 t273 t268 t269 (t270 ++ (⟨#[122]⟩ : ByteArray)) t271 t272 t273) else (none)) else (if (Int.tmod (Go.bits .and .i64 a4 255) 6) = 3 then (if t271.size + 1 ≤ 9223372036854775807 then (entaillaw2_TuplParts.j0 k a0 a1 a2 a3 t268 t269 t270 t271 t272 t273 t268 t269 t270 (t271 ++ (⟨#[122]⟩ : ByteArray)) t272 t273) else (none)) else (if (Int.tmod (Go.bits .and .i64 a4 255) 6) = 4 then (if t272.size + 1 ≤ 9223372036854775807 then (entaillaw2_TuplParts.j0 k a0 a1 a2 a3 t268 t269 t270 t271 t272 t273 t268 t269 t270 t271 (t272 ++ (⟨#[42]⟩ : ByteArray)) t273) else (none)) else (entaillaw2_TuplParts.j0 k a0 a1 a2 a3 t268 t269 t270 t271 t272 t273 t268 t269 t270 t271 t272 (⟨#[]⟩ : ByteArray))))))))) = some r := H
  have A9 := Aside0.mk A90
  clear A90
  replace H := Option.bind_eq_some_iff.mp H
  obtain ⟨t272, A100, H⟩ := H
  replace H : ((entaillaw1_Nm.f (wrap64 (a2 + a3))).bind fun t273 => (if (Int.tmod (Go.bits .and .i64 a4 255) 6) = 0 then (if t268.size + 1 ≤ 9223372036854775807 then (entaillaw2_TuplParts.j0 k a0 a1 a2 a3 t268 t269 t270 t271 t272 t273 (t268 ++ (⟨#[122]⟩ : ByteArray)) t269 t270 t271 t272 t273) else (none)) else (if (Int.tmod (Go.bits .and .i64 a4 255) 6) = 1 then (if t269.size + 1 ≤ 9223372036854775807 then (entaillaw2_TuplParts.j0 k a0 a1 a2 a3 t268 t269 t270 t271 t272 t273 t268 (t269 ++ (⟨#[47]⟩ : ByteArray)) t270 t271 t272 t273) else (none)) else (if (Int.tmod (Go.bits .and .i64 a4 255) 6) = 2 then (if t270.size + 1 ≤ 9223372036854775807 then (entaillaw2_TuplParts.j0 k a0 a1 a2 a3 t268 t269 t270 t271 t272 t273 t268 t269 (t270 ++ (⟨#[122]⟩ : ByteArray)) t271 t272 t273) else (none)) else (if (Int.tmod (Go.bits .and .i64 a4 255) 6) = 3 then (if t271.size + 1 ≤ 9223372036854775807 then (entaillaw2_TuplParts.j0 k a0 a1 a2 a3 t268 t269 t270 t271 t272 t273 t268 t269 t270 (t271 ++ (⟨#[122]⟩ : ByteArray)) t272 t273) else (none)) else (if (Int.tmod (Go.bits .and .i64 a4 255) 6) = 4 then (if t272.size + 1 ≤ 9223372036854775807 then (entaillaw2_TuplParts.j0 k a0 a1 a2 a3 t268 t269 t270 t271 t272 t273 t268 t269 t270 t271 (t272 ++ (⟨#[42]⟩ : ByteArray)) t273) else (none)) else (entaillaw2_TuplParts.j0 k a0 a1 a2 a3 t268 t269 t270 t271 t272 t273 t268 t269 t270 t271 t272 (⟨#[]⟩ : ByteArray)))))))) = some r := H
  have A10 := Aside0.mk A100
  clear A100
  replace H := Option.bind_eq_some_iff.mp H
  obtain ⟨t273, A110, H⟩ := H
  replace H : (if (Int.tmod (Go.bits .and .i64 a4 255) 6) = 0 then (if t268.size + 1 ≤ 9223372036854775807 then (entaillaw2_TuplParts.j0 k a0 a1 a2 a3 t268 t269 t270 t271 t272 t273 (t268 ++ (⟨#[122]⟩ : ByteArray)) t269 t270 t271 t272 t273) else (none)) else (if (Int.tmod (Go.bits .and .i64 a4 255) 6) = 1 then (if t269.size + 1 ≤ 9223372036854775807 then (entaillaw2_TuplParts.j0 k a0 a1 a2 a3 t268 t269 t270 t271 t272 t273 t268 (t269 ++ (⟨#[47]⟩ : ByteArray)) t270 t271 t272 t273) else (none)) else (if (Int.tmod (Go.bits .and .i64 a4 255) 6) = 2 then (if t270.size + 1 ≤ 9223372036854775807 then (entaillaw2_TuplParts.j0 k a0 a1 a2 a3 t268 t269 t270 t271 t272 t273 t268 t269 (t270 ++ (⟨#[122]⟩ : ByteArray)) t271 t272 t273) else (none)) else (if (Int.tmod (Go.bits .and .i64 a4 255) 6) = 3 then (if t271.size + 1 ≤ 9223372036854775807 then (entaillaw2_TuplParts.j0 k a0 a1 a2 a3 t268 t269 t270 t271 t272 t273 t268 t269 t270 (t271 ++ (⟨#[122]⟩ : ByteArray)) t272 t273) else (none)) else (if (Int.tmod (Go.bits .and .i64 a4 255) 6) = 4 then (if t272.size + 1 ≤ 9223372036854775807 then (entaillaw2_TuplParts.j0 k a0 a1 a2 a3 t268 t269 t270 t271 t272 t273 t268 t269 t270 t271 (t272 ++ (⟨#[42]⟩ : ByteArray)) t273) else (none)) else (entaillaw2_TuplParts.j0 k a0 a1 a2 a3 t268 t269 t270 t271 t272 t273 t268 t269 t270 t271 t272 (⟨#[]⟩ : ByteArray))))))) = some r := H
  have A11 := Aside0.mk A110
  clear A110
  have HC12 := Aside0.mk H
  clear H
  go_enter Try.func4, Try.ntmps4
  go_upto_block 0 with (first | (go_at_call 15; (with_reducible refine (entaillaw1_Nm.calls a0 t268 _ A6.out).mono ?_); rintro e w13 ⟨rfl, hb⟩; have n0_ := Aside0.mk (below_step (by repeat (first | (with_reducible first | exact HB.out | apply below_alloc | apply pw_below_drewN | apply below_drew1) | exact HB.out)) hb); clear HB; have HB := n0_; clear n0_; (try clear hb); (try clear hb2); (try clear hk); (try clear hi)) | (go_at_call 15; (with_reducible refine (entaillaw1_Nm.calls a1 t269 _ A7.out).mono ?_); rintro e w14 ⟨rfl, hb⟩; have n0_ := Aside0.mk (below_step (by repeat (first | (with_reducible first | exact HB.out | apply below_alloc | apply pw_below_drewN | apply below_drew1) | exact HB.out)) hb); clear HB; have HB := n0_; clear n0_; (try clear hb); (try clear hb2); (try clear hk); (try clear hi)) | (go_at_call 15; (with_reducible refine (entaillaw1_Nm.calls a2 t270 _ A8.out).mono ?_); rintro e w15 ⟨rfl, hb⟩; have n0_ := Aside0.mk (below_step (by repeat (first | (with_reducible first | exact HB.out | apply below_alloc | apply pw_below_drewN | apply below_drew1) | exact HB.out)) hb); clear HB; have HB := n0_; clear n0_; (try clear hb); (try clear hb2); (try clear hk); (try clear hi)) | (go_at_call 15; (with_reducible refine (entaillaw1_Nm.calls a3 t271 _ A9.out).mono ?_); rintro e w16 ⟨rfl, hb⟩; have n0_ := Aside0.mk (below_step (by repeat (first | (with_reducible first | exact HB.out | apply below_alloc | apply pw_below_drewN | apply below_drew1) | exact HB.out)) hb); clear HB; have HB := n0_; clear n0_; (try clear hb); (try clear hb2); (try clear hk); (try clear hi)) | (go_at_call 15; (with_reducible refine (entaillaw1_Nm.calls (wrap64 (a0 + a1)) t272 _ A10.out).mono ?_); rintro e w17 ⟨rfl, hb⟩; have n0_ := Aside0.mk (below_step (by repeat (first | (with_reducible first | exact HB.out | apply below_alloc | apply pw_below_drewN | apply below_drew1) | exact HB.out)) hb); clear HB; have HB := n0_; clear n0_; (try clear hb); (try clear hb2); (try clear hk); (try clear hi)) | (go_at_call 15; (with_reducible refine (entaillaw1_Nm.calls (wrap64 (a2 + a3)) t273 _ A11.out).mono ?_); rintro e w18 ⟨rfl, hb⟩; have n0_ := Aside0.mk (below_step (by repeat (first | (with_reducible first | exact HB.out | apply below_alloc | apply pw_below_drewN | apply below_drew1) | exact HB.out)) hb); clear HB; have HB := n0_; clear n0_; (try clear hb); (try clear hb2); (try clear hk); (try clear hi)) | ((with_reducible refine gate_dst (N := 12) rfl ?_); refine box_event ?hg (N := 12) ?hd (cs := #[.string (⟨#[]⟩ : ByteArray), .string (⟨#[]⟩ : ByteArray), .string (⟨#[]⟩ : ByteArray), .string (⟨#[]⟩ : ByteArray), .string (⟨#[]⟩ : ByteArray), .string (⟨#[]⟩ : ByteArray)]) (t := 29) ?hr ?_; (case hd => rfl); (case hg => rfl); (case hr => first | (go_simp; done) | (go_simp; rfl)); intro gb274 hg w19 hbox hb; have n0_ := Aside0.mk (below_step (by repeat (first | (with_reducible first | exact HB.out | apply below_alloc | apply pw_below_drewN | apply below_drew1) | exact HB.out)) hb); have n1_ := Aside0.mk (hbox); have n2_ := Aside0.mk ((by rw [hg]; exact (below_size (by repeat (first | (with_reducible first | exact HB.out | apply below_alloc | apply pw_below_drewN | apply below_drew1) | exact HB.out))) : w.heap.size ≤ gb274)); have n3_ := Aside0.mk ((by rw [hg]; exact (below_size (by repeat (first | (with_reducible first | exact HB.out | apply below_alloc | apply pw_below_drewN | apply below_drew1) | exact HB.out))) : w.heap.size ≤ gb274)); clear HB; have HB := n0_; have BK274 := n1_; have GW274 := n2_; have GE274 := n3_; clear n0_ n1_ n2_ n3_; clear hb hbox hg; have hcz20_0 : w19.cell? ⟨gb274, 0, none⟩ = some (.string (⟨#[]⟩ : ByteArray)) := (blk_cell BK274.out 0).trans rfl; have hcz20_1 : w19.cell? ⟨gb274, 1, none⟩ = some (.string (⟨#[]⟩ : ByteArray)) := (blk_cell BK274.out 1).trans rfl; have hcz20_2 : w19.cell? ⟨gb274, 2, none⟩ = some (.string (⟨#[]⟩ : ByteArray)) := (blk_cell BK274.out 2).trans rfl; have hcz20_3 : w19.cell? ⟨gb274, 3, none⟩ = some (.string (⟨#[]⟩ : ByteArray)) := (blk_cell BK274.out 3).trans rfl; have hcz20_4 : w19.cell? ⟨gb274, 4, none⟩ = some (.string (⟨#[]⟩ : ByteArray)) := (blk_cell BK274.out 4).trans rfl; have hcz20_5 : w19.cell? ⟨gb274, 5, none⟩ = some (.string (⟨#[]⟩ : ByteArray)) := (blk_cell BK274.out 5).trans rfl; have hfz20_0 := blk_frozen BK274.out 0; have hfz20_1 := blk_frozen BK274.out 1; have hfz20_2 := blk_frozen BK274.out 2; have hfz20_3 := blk_frozen BK274.out 3; have hfz20_4 := blk_frozen BK274.out 4; have hfz20_5 := blk_frozen BK274.out 5) | ((with_reducible refine gate_dst (N := 13) rfl ?_); refine box_event ?hg (N := 13) ?hd (cs := #[.string (⟨#[]⟩ : ByteArray), .string (⟨#[]⟩ : ByteArray), .string (⟨#[]⟩ : ByteArray), .string (⟨#[]⟩ : ByteArray), .string (⟨#[]⟩ : ByteArray), .string (⟨#[]⟩ : ByteArray)]) (t := 29) ?hr ?_; (case hd => rfl); (case hg => rfl); (case hr => first | (go_simp; done) | (go_simp; rfl)); intro gb275 hg w21 hbox hb; have n0_ := Aside0.mk (blk_below (g := gb274) (o := .cells #[.string t268, .string t269, .string t270, .string t271, .string t272, .string t273] 29 (0, 0)) (by (with_reducible repeat (first | refine blk_drewN ?_ _ | refine blk_drew ?_ | refine blk_alloc ?_ _)); refine blk_put (cs := #[.string t268, .string t269, .string t270, .string t271, .string t272, .string (⟨#[]⟩ : ByteArray)]) ?_ 5 _ rfl; (with_reducible repeat (first | refine blk_drewN ?_ _ | refine blk_drew ?_ | refine blk_alloc ?_ _)); refine blk_put (cs := #[.string t268, .string t269, .string t270, .string t271, .string (⟨#[]⟩ : ByteArray), .string (⟨#[]⟩ : ByteArray)]) ?_ 4 _ rfl; (with_reducible repeat (first | refine blk_drewN ?_ _ | refine blk_drew ?_ | refine blk_alloc ?_ _)); refine blk_put (cs := #[.string t268, .string t269, .string t270, .string (⟨#[]⟩ : ByteArray), .string (⟨#[]⟩ : ByteArray), .string (⟨#[]⟩ : ByteArray)]) ?_ 3 _ rfl; (with_reducible repeat (first | refine blk_drewN ?_ _ | refine blk_drew ?_ | refine blk_alloc ?_ _)); refine blk_put (cs := #[.string t268, .string t269, .string (⟨#[]⟩ : ByteArray), .string (⟨#[]⟩ : ByteArray), .string (⟨#[]⟩ : ByteArray), .string (⟨#[]⟩ : ByteArray)]) ?_ 2 _ rfl; (with_reducible repeat (first | refine blk_drewN ?_ _ | refine blk_drew ?_ | refine blk_alloc ?_ _)); refine blk_put (cs := #[.string t268, .string (⟨#[]⟩ : ByteArray), .string (⟨#[]⟩ : ByteArray), .string (⟨#[]⟩ : ByteArray), .string (⟨#[]⟩ : ByteArray), .string (⟨#[]⟩ : ByteArray)]) ?_ 1 _ rfl; (with_reducible repeat (first | refine blk_drewN ?_ _ | refine blk_drew ?_ | refine blk_alloc ?_ _)); refine blk_put (cs := #[.string (⟨#[]⟩ : ByteArray), .string (⟨#[]⟩ : ByteArray), .string (⟨#[]⟩ : ByteArray), .string (⟨#[]⟩ : ByteArray), .string (⟨#[]⟩ : ByteArray), .string (⟨#[]⟩ : ByteArray)]) ?_ 0 _ rfl; (with_reducible repeat (first | refine blk_drewN ?_ _ | refine blk_drew ?_ | refine blk_alloc ?_ _)); exact BK274.out) hb); have n1_ := Aside0.mk (below_step (by repeat (first | (with_reducible first | exact HB.out | apply below_alloc | apply pw_below_drewN | apply below_drew1 | refine below_set ?_ GE274.out) | exact HB.out)) hb); have n2_ := Aside0.mk (hbox); have n3_ := Aside0.mk ((by rw [hg]; exact (below_size (by repeat (first | (with_reducible first | exact HB.out | apply below_alloc | apply pw_below_drewN | apply below_drew1 | refine below_set ?_ GE274.out) | exact HB.out))) : w.heap.size ≤ gb275)); have n4_ := Aside0.mk ((by rw [hg]; exact (below_size (by repeat (first | (with_reducible first | exact HB.out | apply below_alloc | apply pw_below_drewN | apply below_drew1 | refine below_set ?_ GE274.out) | exact HB.out))) : w.heap.size ≤ gb275)); have n5_ := Aside0.mk ((by rw [hg]; exact Nat.ne_of_lt (blk_lt (g := gb274) (o := .cells #[.string t268, .string t269, .string t270, .string t271, .string t272, .string t273] 29 (0, 0)) (by (with_reducible repeat (first | refine blk_drewN ?_ _ | refine blk_drew ?_ | refine blk_alloc ?_ _)); refine blk_put (cs := #[.string t268, .string t269, .string t270, .string t271, .string t272, .string (⟨#[]⟩ : ByteArray)]) ?_ 5 _ rfl; (with_reducible repeat (first | refine blk_drewN ?_ _ | refine blk_drew ?_ | refine blk_alloc ?_ _)); refine blk_put (cs := #[.string t268, .string t269, .string t270, .string t271, .string (⟨#[]⟩ : ByteArray), .string (⟨#[]⟩ : ByteArray)]) ?_ 4 _ rfl; (with_reducible repeat (first | refine blk_drewN ?_ _ | refine blk_drew ?_ | refine blk_alloc ?_ _)); refine blk_put (cs := #[.string t268, .string t269, .string t270, .string (⟨#[]⟩ : ByteArray), .string (⟨#[]⟩ : ByteArray), .string (⟨#[]⟩ : ByteArray)]) ?_ 3 _ rfl; (with_reducible repeat (first | refine blk_drewN ?_ _ | refine blk_drew ?_ | refine blk_alloc ?_ _)); refine blk_put (cs := #[.string t268, .string t269, .string (⟨#[]⟩ : ByteArray), .string (⟨#[]⟩ : ByteArray), .string (⟨#[]⟩ : ByteArray), .string (⟨#[]⟩ : ByteArray)]) ?_ 2 _ rfl; (with_reducible repeat (first | refine blk_drewN ?_ _ | refine blk_drew ?_ | refine blk_alloc ?_ _)); refine blk_put (cs := #[.string t268, .string (⟨#[]⟩ : ByteArray), .string (⟨#[]⟩ : ByteArray), .string (⟨#[]⟩ : ByteArray), .string (⟨#[]⟩ : ByteArray), .string (⟨#[]⟩ : ByteArray)]) ?_ 1 _ rfl; (with_reducible repeat (first | refine blk_drewN ?_ _ | refine blk_drew ?_ | refine blk_alloc ?_ _)); refine blk_put (cs := #[.string (⟨#[]⟩ : ByteArray), .string (⟨#[]⟩ : ByteArray), .string (⟨#[]⟩ : ByteArray), .string (⟨#[]⟩ : ByteArray), .string (⟨#[]⟩ : ByteArray), .string (⟨#[]⟩ : ByteArray)]) ?_ 0 _ rfl; (with_reducible repeat (first | refine blk_drewN ?_ _ | refine blk_drew ?_ | refine blk_alloc ?_ _)); exact BK274.out)) : gb274 ≠ gb275)); have n6_ := Aside0.mk ((by rw [hg]; exact Nat.ne_of_gt (blk_lt (g := gb274) (o := .cells #[.string t268, .string t269, .string t270, .string t271, .string t272, .string t273] 29 (0, 0)) (by (with_reducible repeat (first | refine blk_drewN ?_ _ | refine blk_drew ?_ | refine blk_alloc ?_ _)); refine blk_put (cs := #[.string t268, .string t269, .string t270, .string t271, .string t272, .string (⟨#[]⟩ : ByteArray)]) ?_ 5 _ rfl; (with_reducible repeat (first | refine blk_drewN ?_ _ | refine blk_drew ?_ | refine blk_alloc ?_ _)); refine blk_put (cs := #[.string t268, .string t269, .string t270, .string t271, .string (⟨#[]⟩ : ByteArray), .string (⟨#[]⟩ : ByteArray)]) ?_ 4 _ rfl; (with_reducible repeat (first | refine blk_drewN ?_ _ | refine blk_drew ?_ | refine blk_alloc ?_ _)); refine blk_put (cs := #[.string t268, .string t269, .string t270, .string (⟨#[]⟩ : ByteArray), .string (⟨#[]⟩ : ByteArray), .string (⟨#[]⟩ : ByteArray)]) ?_ 3 _ rfl; (with_reducible repeat (first | refine blk_drewN ?_ _ | refine blk_drew ?_ | refine blk_alloc ?_ _)); refine blk_put (cs := #[.string t268, .string t269, .string (⟨#[]⟩ : ByteArray), .string (⟨#[]⟩ : ByteArray), .string (⟨#[]⟩ : ByteArray), .string (⟨#[]⟩ : ByteArray)]) ?_ 2 _ rfl; (with_reducible repeat (first | refine blk_drewN ?_ _ | refine blk_drew ?_ | refine blk_alloc ?_ _)); refine blk_put (cs := #[.string t268, .string (⟨#[]⟩ : ByteArray), .string (⟨#[]⟩ : ByteArray), .string (⟨#[]⟩ : ByteArray), .string (⟨#[]⟩ : ByteArray), .string (⟨#[]⟩ : ByteArray)]) ?_ 1 _ rfl; (with_reducible repeat (first | refine blk_drewN ?_ _ | refine blk_drew ?_ | refine blk_alloc ?_ _)); refine blk_put (cs := #[.string (⟨#[]⟩ : ByteArray), .string (⟨#[]⟩ : ByteArray), .string (⟨#[]⟩ : ByteArray), .string (⟨#[]⟩ : ByteArray), .string (⟨#[]⟩ : ByteArray), .string (⟨#[]⟩ : ByteArray)]) ?_ 0 _ rfl; (with_reducible repeat (first | refine blk_drewN ?_ _ | refine blk_drew ?_ | refine blk_alloc ?_ _)); exact BK274.out)) : gb275 ≠ gb274)); clear BK274; clear HB; have BK274 := n0_; have HB := n1_; have BK275 := n2_; have GW275 := n3_; have GE275 := n4_; have NB274_275 := n5_; have NB275_274 := n6_; clear n0_ n1_ n2_ n3_ n4_ n5_ n6_; clear hb hbox hg; have hnb22 := NB275_274.out; have hnc22 := NB274_275.out; have hcz23_0 : w21.cell? ⟨gb275, 0, none⟩ = some (.string (⟨#[]⟩ : ByteArray)) := (blk_cell BK275.out 0).trans rfl; have hcz23_1 : w21.cell? ⟨gb275, 1, none⟩ = some (.string (⟨#[]⟩ : ByteArray)) := (blk_cell BK275.out 1).trans rfl; have hcz23_2 : w21.cell? ⟨gb275, 2, none⟩ = some (.string (⟨#[]⟩ : ByteArray)) := (blk_cell BK275.out 2).trans rfl; have hcz23_3 : w21.cell? ⟨gb275, 3, none⟩ = some (.string (⟨#[]⟩ : ByteArray)) := (blk_cell BK275.out 3).trans rfl; have hcz23_4 : w21.cell? ⟨gb275, 4, none⟩ = some (.string (⟨#[]⟩ : ByteArray)) := (blk_cell BK275.out 4).trans rfl; have hcz23_5 : w21.cell? ⟨gb275, 5, none⟩ = some (.string (⟨#[]⟩ : ByteArray)) := (blk_cell BK275.out 5).trans rfl; have hfz23_0 := blk_frozen BK275.out 0; have hfz23_1 := blk_frozen BK275.out 1; have hfz23_2 := blk_frozen BK275.out 2; have hfz23_3 := blk_frozen BK275.out 3; have hfz23_4 := blk_frozen BK275.out 4; have hfz23_5 := blk_frozen BK275.out 5))
  (try simp only [Act.put, List.setIfInBounds_toArray, List.set_cons_zero, List.set_cons_succ])
  go_cut [] (fun wc => ∃ (kq : Nat) (x276000_11 : ByteArray) (x276001_11 : ByteArray) (x276002_11 : ByteArray) (x276003_11 : ByteArray) (x276004_11 : ByteArray) (x276005_11 : ByteArray), Aside0 (entaillaw2_TuplParts.j0 kq a0 a1 a2 a3 t268 t269 t270 t271 t272 t273 x276000_11 x276001_11 x276002_11 x276003_11 x276004_11 x276005_11 = some r) ∧ Aside0 (kq ≤ k) ∧ Aside0 (wc.heap[gb274]? = some (.cells #[.string t268, .string t269, .string t270, .string t271, .string t272, .string t273] 29 (0, 0))) ∧ Aside0 (wc.heap[gb275]? = some (.cells #[.string x276000_11, .string x276001_11, .string x276002_11, .string x276003_11, .string x276004_11, .string x276005_11] 29 (0, 0))) ∧ Aside0 (Below w.heap.size w wc))
  case first =>
    have H := HC12.out
    clear HC12
    by_cases c24 : (Int.tmod (Go.bits .and .i64 a4 255) 6) = 0
    · rw [if_pos c24] at H
      have c24b0 : ((Int.tmod (Go.bits .and .i64 a4 255) 6) == 0) = true := beq_iff_eq.mpr c24
      have c24b1 : ((Int.tmod (Go.bits .and .i64 a4 255) 6) != 0) = false := bne_eq_false_iff_eq.mpr c24
      clear c24
      (first | rw [c24b0] | (simp only [i64_w, i32_w]; rw [c24b0]) | skip)
      by_cases c25 : t268.size + 1 ≤ 9223372036854775807
      · rw [if_pos c25] at H
        have c25b0 := eq_true c25
        have c25b1 : decide (t268.size + 1 ≤ 9223372036854775807) = true := decide_eq_true c25
        try have c25b2 : (9223372036854775807 < t268.size + 1) = False := eq_false (Nat.not_lt.2 c25)
        have H' := Aside0.mk H
        clear H
        have hnb26 := NB275_274.out
        have hnc26 := NB274_275.out
        have hcz27_0 : w21.cell? ⟨gb275, 0, none⟩ = some (.string (⟨#[]⟩ : ByteArray)) := (blk_cell BK275.out 0).trans rfl
        have hcz27_1 : w21.cell? ⟨gb275, 1, none⟩ = some (.string (⟨#[]⟩ : ByteArray)) := (blk_cell BK275.out 1).trans rfl
        have hcz27_2 : w21.cell? ⟨gb275, 2, none⟩ = some (.string (⟨#[]⟩ : ByteArray)) := (blk_cell BK275.out 2).trans rfl
        have hcz27_3 : w21.cell? ⟨gb275, 3, none⟩ = some (.string (⟨#[]⟩ : ByteArray)) := (blk_cell BK275.out 3).trans rfl
        have hcz27_4 : w21.cell? ⟨gb275, 4, none⟩ = some (.string (⟨#[]⟩ : ByteArray)) := (blk_cell BK275.out 4).trans rfl
        have hcz27_5 : w21.cell? ⟨gb275, 5, none⟩ = some (.string (⟨#[]⟩ : ByteArray)) := (blk_cell BK275.out 5).trans rfl
        have hfz27_0 := blk_frozen BK275.out 0
        have hfz27_1 := blk_frozen BK275.out 1
        have hfz27_2 := blk_frozen BK275.out 2
        have hfz27_3 := blk_frozen BK275.out 3
        have hfz27_4 := blk_frozen BK275.out 4
        have hfz27_5 := blk_frozen BK275.out 5
        go_wp2
        go_meet
        case rel => exact ⟨_, (t268 ++ (⟨#[122]⟩ : ByteArray)), (t269), (t270), (t271), (t272), (t273), H', ⟨by first | omega | exact Nat.le_refl _⟩, ⟨by (with_reducible repeat (first | refine blk_drewN ?_ _ | refine blk_drew ?_ | refine blk_alloc ?_ _)); refine blk_far ?_ NB274_275.out _; (with_reducible repeat (first | refine blk_drewN ?_ _ | refine blk_drew ?_ | refine blk_alloc ?_ _)); refine blk_far ?_ NB274_275.out _; (with_reducible repeat (first | refine blk_drewN ?_ _ | refine blk_drew ?_ | refine blk_alloc ?_ _)); refine blk_far ?_ NB274_275.out _; (with_reducible repeat (first | refine blk_drewN ?_ _ | refine blk_drew ?_ | refine blk_alloc ?_ _)); refine blk_far ?_ NB274_275.out _; (with_reducible repeat (first | refine blk_drewN ?_ _ | refine blk_drew ?_ | refine blk_alloc ?_ _)); refine blk_far ?_ NB274_275.out _; (with_reducible repeat (first | refine blk_drewN ?_ _ | refine blk_drew ?_ | refine blk_alloc ?_ _)); refine blk_far ?_ NB274_275.out _; (with_reducible repeat (first | refine blk_drewN ?_ _ | refine blk_drew ?_ | refine blk_alloc ?_ _)); refine blk_far ?_ NB274_275.out _; (with_reducible repeat (first | refine blk_drewN ?_ _ | refine blk_drew ?_ | refine blk_alloc ?_ _)); exact BK274.out⟩, ⟨by (with_reducible repeat (first | refine blk_drewN ?_ _ | refine blk_drew ?_ | refine blk_alloc ?_ _)); refine blk_put (cs := #[.string t268, .string t269, .string t270, .string t271, .string t272, .string t273]) ?_ 0 _ rfl; (with_reducible repeat (first | refine blk_drewN ?_ _ | refine blk_drew ?_ | refine blk_alloc ?_ _)); refine blk_put (cs := #[.string t268, .string t269, .string t270, .string t271, .string t272, .string (⟨#[]⟩ : ByteArray)]) ?_ 5 _ rfl; (with_reducible repeat (first | refine blk_drewN ?_ _ | refine blk_drew ?_ | refine blk_alloc ?_ _)); refine blk_put (cs := #[.string t268, .string t269, .string t270, .string t271, .string (⟨#[]⟩ : ByteArray), .string (⟨#[]⟩ : ByteArray)]) ?_ 4 _ rfl; (with_reducible repeat (first | refine blk_drewN ?_ _ | refine blk_drew ?_ | refine blk_alloc ?_ _)); refine blk_put (cs := #[.string t268, .string t269, .string t270, .string (⟨#[]⟩ : ByteArray), .string (⟨#[]⟩ : ByteArray), .string (⟨#[]⟩ : ByteArray)]) ?_ 3 _ rfl; (with_reducible repeat (first | refine blk_drewN ?_ _ | refine blk_drew ?_ | refine blk_alloc ?_ _)); refine blk_put (cs := #[.string t268, .string t269, .string (⟨#[]⟩ : ByteArray), .string (⟨#[]⟩ : ByteArray), .string (⟨#[]⟩ : ByteArray), .string (⟨#[]⟩ : ByteArray)]) ?_ 2 _ rfl; (with_reducible repeat (first | refine blk_drewN ?_ _ | refine blk_drew ?_ | refine blk_alloc ?_ _)); refine blk_put (cs := #[.string t268, .string (⟨#[]⟩ : ByteArray), .string (⟨#[]⟩ : ByteArray), .string (⟨#[]⟩ : ByteArray), .string (⟨#[]⟩ : ByteArray), .string (⟨#[]⟩ : ByteArray)]) ?_ 1 _ rfl; (with_reducible repeat (first | refine blk_drewN ?_ _ | refine blk_drew ?_ | refine blk_alloc ?_ _)); refine blk_put (cs := #[.string (⟨#[]⟩ : ByteArray), .string (⟨#[]⟩ : ByteArray), .string (⟨#[]⟩ : ByteArray), .string (⟨#[]⟩ : ByteArray), .string (⟨#[]⟩ : ByteArray), .string (⟨#[]⟩ : ByteArray)]) ?_ 0 _ rfl; (with_reducible repeat (first | refine blk_drewN ?_ _ | refine blk_drew ?_ | refine blk_alloc ?_ _)); exact BK275.out⟩, ⟨by repeat (first | (with_reducible first | exact HB.out | apply below_alloc | apply pw_below_drewN | apply below_drew1 | refine below_set ?_ GE274.out | refine below_set ?_ GE275.out) | exact HB.out)⟩⟩
      · rw [if_neg c25] at H
        exact absurd H (by simp)
    · rw [if_neg c24] at H
      have c24b0 : ((Int.tmod (Go.bits .and .i64 a4 255) 6) == 0) = false := beq_eq_false_iff_ne.mpr c24
      have c24b1 : ((Int.tmod (Go.bits .and .i64 a4 255) 6) != 0) = true := bne_iff_ne.mpr c24
      (first | rw [c24b0] | (simp only [i64_w, i32_w]; rw [c24b0]) | skip)
      by_cases c28 : (Int.tmod (Go.bits .and .i64 a4 255) 6) = 1
      · rw [if_pos c28] at H
        have c28b0 : ((Int.tmod (Go.bits .and .i64 a4 255) 6) == 1) = true := beq_iff_eq.mpr c28
        have c28b1 : ((Int.tmod (Go.bits .and .i64 a4 255) 6) != 1) = false := bne_eq_false_iff_eq.mpr c28
        clear c28
        by_cases c29 : t269.size + 1 ≤ 9223372036854775807
        · rw [if_pos c29] at H
          have c29b0 := eq_true c29
          have c29b1 : decide (t269.size + 1 ≤ 9223372036854775807) = true := decide_eq_true c29
          try have c29b2 : (9223372036854775807 < t269.size + 1) = False := eq_false (Nat.not_lt.2 c29)
          have H' := Aside0.mk H
          clear H
          have hnb30 := NB275_274.out
          have hnc30 := NB274_275.out
          have hcz31_0 : w21.cell? ⟨gb275, 0, none⟩ = some (.string (⟨#[]⟩ : ByteArray)) := (blk_cell BK275.out 0).trans rfl
          have hcz31_1 : w21.cell? ⟨gb275, 1, none⟩ = some (.string (⟨#[]⟩ : ByteArray)) := (blk_cell BK275.out 1).trans rfl
          have hcz31_2 : w21.cell? ⟨gb275, 2, none⟩ = some (.string (⟨#[]⟩ : ByteArray)) := (blk_cell BK275.out 2).trans rfl
          have hcz31_3 : w21.cell? ⟨gb275, 3, none⟩ = some (.string (⟨#[]⟩ : ByteArray)) := (blk_cell BK275.out 3).trans rfl
          have hcz31_4 : w21.cell? ⟨gb275, 4, none⟩ = some (.string (⟨#[]⟩ : ByteArray)) := (blk_cell BK275.out 4).trans rfl
          have hcz31_5 : w21.cell? ⟨gb275, 5, none⟩ = some (.string (⟨#[]⟩ : ByteArray)) := (blk_cell BK275.out 5).trans rfl
          have hfz31_0 := blk_frozen BK275.out 0
          have hfz31_1 := blk_frozen BK275.out 1
          have hfz31_2 := blk_frozen BK275.out 2
          have hfz31_3 := blk_frozen BK275.out 3
          have hfz31_4 := blk_frozen BK275.out 4
          have hfz31_5 := blk_frozen BK275.out 5
          go_wp2
          go_meet
          case rel => exact ⟨_, (t268), (t269 ++ (⟨#[47]⟩ : ByteArray)), (t270), (t271), (t272), (t273), H', ⟨by first | omega | exact Nat.le_refl _⟩, ⟨by (with_reducible repeat (first | refine blk_drewN ?_ _ | refine blk_drew ?_ | refine blk_alloc ?_ _)); refine blk_far ?_ NB274_275.out _; (with_reducible repeat (first | refine blk_drewN ?_ _ | refine blk_drew ?_ | refine blk_alloc ?_ _)); refine blk_far ?_ NB274_275.out _; (with_reducible repeat (first | refine blk_drewN ?_ _ | refine blk_drew ?_ | refine blk_alloc ?_ _)); refine blk_far ?_ NB274_275.out _; (with_reducible repeat (first | refine blk_drewN ?_ _ | refine blk_drew ?_ | refine blk_alloc ?_ _)); refine blk_far ?_ NB274_275.out _; (with_reducible repeat (first | refine blk_drewN ?_ _ | refine blk_drew ?_ | refine blk_alloc ?_ _)); refine blk_far ?_ NB274_275.out _; (with_reducible repeat (first | refine blk_drewN ?_ _ | refine blk_drew ?_ | refine blk_alloc ?_ _)); refine blk_far ?_ NB274_275.out _; (with_reducible repeat (first | refine blk_drewN ?_ _ | refine blk_drew ?_ | refine blk_alloc ?_ _)); refine blk_far ?_ NB274_275.out _; (with_reducible repeat (first | refine blk_drewN ?_ _ | refine blk_drew ?_ | refine blk_alloc ?_ _)); exact BK274.out⟩, ⟨by (with_reducible repeat (first | refine blk_drewN ?_ _ | refine blk_drew ?_ | refine blk_alloc ?_ _)); refine blk_put (cs := #[.string t268, .string t269, .string t270, .string t271, .string t272, .string t273]) ?_ 1 _ rfl; (with_reducible repeat (first | refine blk_drewN ?_ _ | refine blk_drew ?_ | refine blk_alloc ?_ _)); refine blk_put (cs := #[.string t268, .string t269, .string t270, .string t271, .string t272, .string (⟨#[]⟩ : ByteArray)]) ?_ 5 _ rfl; (with_reducible repeat (first | refine blk_drewN ?_ _ | refine blk_drew ?_ | refine blk_alloc ?_ _)); refine blk_put (cs := #[.string t268, .string t269, .string t270, .string t271, .string (⟨#[]⟩ : ByteArray), .string (⟨#[]⟩ : ByteArray)]) ?_ 4 _ rfl; (with_reducible repeat (first | refine blk_drewN ?_ _ | refine blk_drew ?_ | refine blk_alloc ?_ _)); refine blk_put (cs := #[.string t268, .string t269, .string t270, .string (⟨#[]⟩ : ByteArray), .string (⟨#[]⟩ : ByteArray), .string (⟨#[]⟩ : ByteArray)]) ?_ 3 _ rfl; (with_reducible repeat (first | refine blk_drewN ?_ _ | refine blk_drew ?_ | refine blk_alloc ?_ _)); refine blk_put (cs := #[.string t268, .string t269, .string (⟨#[]⟩ : ByteArray), .string (⟨#[]⟩ : ByteArray), .string (⟨#[]⟩ : ByteArray), .string (⟨#[]⟩ : ByteArray)]) ?_ 2 _ rfl; (with_reducible repeat (first | refine blk_drewN ?_ _ | refine blk_drew ?_ | refine blk_alloc ?_ _)); refine blk_put (cs := #[.string t268, .string (⟨#[]⟩ : ByteArray), .string (⟨#[]⟩ : ByteArray), .string (⟨#[]⟩ : ByteArray), .string (⟨#[]⟩ : ByteArray), .string (⟨#[]⟩ : ByteArray)]) ?_ 1 _ rfl; (with_reducible repeat (first | refine blk_drewN ?_ _ | refine blk_drew ?_ | refine blk_alloc ?_ _)); refine blk_put (cs := #[.string (⟨#[]⟩ : ByteArray), .string (⟨#[]⟩ : ByteArray), .string (⟨#[]⟩ : ByteArray), .string (⟨#[]⟩ : ByteArray), .string (⟨#[]⟩ : ByteArray), .string (⟨#[]⟩ : ByteArray)]) ?_ 0 _ rfl; (with_reducible repeat (first | refine blk_drewN ?_ _ | refine blk_drew ?_ | refine blk_alloc ?_ _)); exact BK275.out⟩, ⟨by repeat (first | (with_reducible first | exact HB.out | apply below_alloc | apply pw_below_drewN | apply below_drew1 | refine below_set ?_ GE274.out | refine below_set ?_ GE275.out) | exact HB.out)⟩⟩
        · rw [if_neg c29] at H
          exact absurd H (by simp)
      · rw [if_neg c28] at H
        have c28b0 : ((Int.tmod (Go.bits .and .i64 a4 255) 6) == 1) = false := beq_eq_false_iff_ne.mpr c28
        have c28b1 : ((Int.tmod (Go.bits .and .i64 a4 255) 6) != 1) = true := bne_iff_ne.mpr c28
        by_cases c32 : (Int.tmod (Go.bits .and .i64 a4 255) 6) = 2
        · rw [if_pos c32] at H
          have c32b0 : ((Int.tmod (Go.bits .and .i64 a4 255) 6) == 2) = true := beq_iff_eq.mpr c32
          have c32b1 : ((Int.tmod (Go.bits .and .i64 a4 255) 6) != 2) = false := bne_eq_false_iff_eq.mpr c32
          clear c32
          by_cases c33 : t270.size + 1 ≤ 9223372036854775807
          · rw [if_pos c33] at H
            have c33b0 := eq_true c33
            have c33b1 : decide (t270.size + 1 ≤ 9223372036854775807) = true := decide_eq_true c33
            try have c33b2 : (9223372036854775807 < t270.size + 1) = False := eq_false (Nat.not_lt.2 c33)
            have H' := Aside0.mk H
            clear H
            have hnb34 := NB275_274.out
            have hnc34 := NB274_275.out
            have hcz35_0 : w21.cell? ⟨gb275, 0, none⟩ = some (.string (⟨#[]⟩ : ByteArray)) := (blk_cell BK275.out 0).trans rfl
            have hcz35_1 : w21.cell? ⟨gb275, 1, none⟩ = some (.string (⟨#[]⟩ : ByteArray)) := (blk_cell BK275.out 1).trans rfl
            have hcz35_2 : w21.cell? ⟨gb275, 2, none⟩ = some (.string (⟨#[]⟩ : ByteArray)) := (blk_cell BK275.out 2).trans rfl
            have hcz35_3 : w21.cell? ⟨gb275, 3, none⟩ = some (.string (⟨#[]⟩ : ByteArray)) := (blk_cell BK275.out 3).trans rfl
            have hcz35_4 : w21.cell? ⟨gb275, 4, none⟩ = some (.string (⟨#[]⟩ : ByteArray)) := (blk_cell BK275.out 4).trans rfl
            have hcz35_5 : w21.cell? ⟨gb275, 5, none⟩ = some (.string (⟨#[]⟩ : ByteArray)) := (blk_cell BK275.out 5).trans rfl
            have hfz35_0 := blk_frozen BK275.out 0
            have hfz35_1 := blk_frozen BK275.out 1
            have hfz35_2 := blk_frozen BK275.out 2
            have hfz35_3 := blk_frozen BK275.out 3
            have hfz35_4 := blk_frozen BK275.out 4
            have hfz35_5 := blk_frozen BK275.out 5
            go_wp2
            go_meet
            case rel => exact ⟨_, (t268), (t269), (t270 ++ (⟨#[122]⟩ : ByteArray)), (t271), (t272), (t273), H', ⟨by first | omega | exact Nat.le_refl _⟩, ⟨by (with_reducible repeat (first | refine blk_drewN ?_ _ | refine blk_drew ?_ | refine blk_alloc ?_ _)); refine blk_far ?_ NB274_275.out _; (with_reducible repeat (first | refine blk_drewN ?_ _ | refine blk_drew ?_ | refine blk_alloc ?_ _)); refine blk_far ?_ NB274_275.out _; (with_reducible repeat (first | refine blk_drewN ?_ _ | refine blk_drew ?_ | refine blk_alloc ?_ _)); refine blk_far ?_ NB274_275.out _; (with_reducible repeat (first | refine blk_drewN ?_ _ | refine blk_drew ?_ | refine blk_alloc ?_ _)); refine blk_far ?_ NB274_275.out _; (with_reducible repeat (first | refine blk_drewN ?_ _ | refine blk_drew ?_ | refine blk_alloc ?_ _)); refine blk_far ?_ NB274_275.out _; (with_reducible repeat (first | refine blk_drewN ?_ _ | refine blk_drew ?_ | refine blk_alloc ?_ _)); refine blk_far ?_ NB274_275.out _; (with_reducible repeat (first | refine blk_drewN ?_ _ | refine blk_drew ?_ | refine blk_alloc ?_ _)); refine blk_far ?_ NB274_275.out _; (with_reducible repeat (first | refine blk_drewN ?_ _ | refine blk_drew ?_ | refine blk_alloc ?_ _)); exact BK274.out⟩, ⟨by (with_reducible repeat (first | refine blk_drewN ?_ _ | refine blk_drew ?_ | refine blk_alloc ?_ _)); refine blk_put (cs := #[.string t268, .string t269, .string t270, .string t271, .string t272, .string t273]) ?_ 2 _ rfl; (with_reducible repeat (first | refine blk_drewN ?_ _ | refine blk_drew ?_ | refine blk_alloc ?_ _)); refine blk_put (cs := #[.string t268, .string t269, .string t270, .string t271, .string t272, .string (⟨#[]⟩ : ByteArray)]) ?_ 5 _ rfl; (with_reducible repeat (first | refine blk_drewN ?_ _ | refine blk_drew ?_ | refine blk_alloc ?_ _)); refine blk_put (cs := #[.string t268, .string t269, .string t270, .string t271, .string (⟨#[]⟩ : ByteArray), .string (⟨#[]⟩ : ByteArray)]) ?_ 4 _ rfl; (with_reducible repeat (first | refine blk_drewN ?_ _ | refine blk_drew ?_ | refine blk_alloc ?_ _)); refine blk_put (cs := #[.string t268, .string t269, .string t270, .string (⟨#[]⟩ : ByteArray), .string (⟨#[]⟩ : ByteArray), .string (⟨#[]⟩ : ByteArray)]) ?_ 3 _ rfl; (with_reducible repeat (first | refine blk_drewN ?_ _ | refine blk_drew ?_ | refine blk_alloc ?_ _)); refine blk_put (cs := #[.string t268, .string t269, .string (⟨#[]⟩ : ByteArray), .string (⟨#[]⟩ : ByteArray), .string (⟨#[]⟩ : ByteArray), .string (⟨#[]⟩ : ByteArray)]) ?_ 2 _ rfl; (with_reducible repeat (first | refine blk_drewN ?_ _ | refine blk_drew ?_ | refine blk_alloc ?_ _)); refine blk_put (cs := #[.string t268, .string (⟨#[]⟩ : ByteArray), .string (⟨#[]⟩ : ByteArray), .string (⟨#[]⟩ : ByteArray), .string (⟨#[]⟩ : ByteArray), .string (⟨#[]⟩ : ByteArray)]) ?_ 1 _ rfl; (with_reducible repeat (first | refine blk_drewN ?_ _ | refine blk_drew ?_ | refine blk_alloc ?_ _)); refine blk_put (cs := #[.string (⟨#[]⟩ : ByteArray), .string (⟨#[]⟩ : ByteArray), .string (⟨#[]⟩ : ByteArray), .string (⟨#[]⟩ : ByteArray), .string (⟨#[]⟩ : ByteArray), .string (⟨#[]⟩ : ByteArray)]) ?_ 0 _ rfl; (with_reducible repeat (first | refine blk_drewN ?_ _ | refine blk_drew ?_ | refine blk_alloc ?_ _)); exact BK275.out⟩, ⟨by repeat (first | (with_reducible first | exact HB.out | apply below_alloc | apply pw_below_drewN | apply below_drew1 | refine below_set ?_ GE274.out | refine below_set ?_ GE275.out) | exact HB.out)⟩⟩
          · rw [if_neg c33] at H
            exact absurd H (by simp)
        · rw [if_neg c32] at H
          have c32b0 : ((Int.tmod (Go.bits .and .i64 a4 255) 6) == 2) = false := beq_eq_false_iff_ne.mpr c32
          have c32b1 : ((Int.tmod (Go.bits .and .i64 a4 255) 6) != 2) = true := bne_iff_ne.mpr c32
          by_cases c36 : (Int.tmod (Go.bits .and .i64 a4 255) 6) = 3
          · rw [if_pos c36] at H
            have c36b0 : ((Int.tmod (Go.bits .and .i64 a4 255) 6) == 3) = true := beq_iff_eq.mpr c36
            have c36b1 : ((Int.tmod (Go.bits .and .i64 a4 255) 6) != 3) = false := bne_eq_false_iff_eq.mpr c36
            clear c36
            by_cases c37 : t271.size + 1 ≤ 9223372036854775807
            · rw [if_pos c37] at H
              have c37b0 := eq_true c37
              have c37b1 : decide (t271.size + 1 ≤ 9223372036854775807) = true := decide_eq_true c37
              try have c37b2 : (9223372036854775807 < t271.size + 1) = False := eq_false (Nat.not_lt.2 c37)
              have H' := Aside0.mk H
              clear H
              have hnb38 := NB275_274.out
              have hnc38 := NB274_275.out
              have hcz39_0 : w21.cell? ⟨gb275, 0, none⟩ = some (.string (⟨#[]⟩ : ByteArray)) := (blk_cell BK275.out 0).trans rfl
              have hcz39_1 : w21.cell? ⟨gb275, 1, none⟩ = some (.string (⟨#[]⟩ : ByteArray)) := (blk_cell BK275.out 1).trans rfl
              have hcz39_2 : w21.cell? ⟨gb275, 2, none⟩ = some (.string (⟨#[]⟩ : ByteArray)) := (blk_cell BK275.out 2).trans rfl
              have hcz39_3 : w21.cell? ⟨gb275, 3, none⟩ = some (.string (⟨#[]⟩ : ByteArray)) := (blk_cell BK275.out 3).trans rfl
              have hcz39_4 : w21.cell? ⟨gb275, 4, none⟩ = some (.string (⟨#[]⟩ : ByteArray)) := (blk_cell BK275.out 4).trans rfl
              have hcz39_5 : w21.cell? ⟨gb275, 5, none⟩ = some (.string (⟨#[]⟩ : ByteArray)) := (blk_cell BK275.out 5).trans rfl
              have hfz39_0 := blk_frozen BK275.out 0
              have hfz39_1 := blk_frozen BK275.out 1
              have hfz39_2 := blk_frozen BK275.out 2
              have hfz39_3 := blk_frozen BK275.out 3
              have hfz39_4 := blk_frozen BK275.out 4
              have hfz39_5 := blk_frozen BK275.out 5
              go_wp2
              go_meet
              case rel => exact ⟨_, (t268), (t269), (t270), (t271 ++ (⟨#[122]⟩ : ByteArray)), (t272), (t273), H', ⟨by first | omega | exact Nat.le_refl _⟩, ⟨by (with_reducible repeat (first | refine blk_drewN ?_ _ | refine blk_drew ?_ | refine blk_alloc ?_ _)); refine blk_far ?_ NB274_275.out _; (with_reducible repeat (first | refine blk_drewN ?_ _ | refine blk_drew ?_ | refine blk_alloc ?_ _)); refine blk_far ?_ NB274_275.out _; (with_reducible repeat (first | refine blk_drewN ?_ _ | refine blk_drew ?_ | refine blk_alloc ?_ _)); refine blk_far ?_ NB274_275.out _; (with_reducible repeat (first | refine blk_drewN ?_ _ | refine blk_drew ?_ | refine blk_alloc ?_ _)); refine blk_far ?_ NB274_275.out _; (with_reducible repeat (first | refine blk_drewN ?_ _ | refine blk_drew ?_ | refine blk_alloc ?_ _)); refine blk_far ?_ NB274_275.out _; (with_reducible repeat (first | refine blk_drewN ?_ _ | refine blk_drew ?_ | refine blk_alloc ?_ _)); refine blk_far ?_ NB274_275.out _; (with_reducible repeat (first | refine blk_drewN ?_ _ | refine blk_drew ?_ | refine blk_alloc ?_ _)); refine blk_far ?_ NB274_275.out _; (with_reducible repeat (first | refine blk_drewN ?_ _ | refine blk_drew ?_ | refine blk_alloc ?_ _)); exact BK274.out⟩, ⟨by (with_reducible repeat (first | refine blk_drewN ?_ _ | refine blk_drew ?_ | refine blk_alloc ?_ _)); refine blk_put (cs := #[.string t268, .string t269, .string t270, .string t271, .string t272, .string t273]) ?_ 3 _ rfl; (with_reducible repeat (first | refine blk_drewN ?_ _ | refine blk_drew ?_ | refine blk_alloc ?_ _)); refine blk_put (cs := #[.string t268, .string t269, .string t270, .string t271, .string t272, .string (⟨#[]⟩ : ByteArray)]) ?_ 5 _ rfl; (with_reducible repeat (first | refine blk_drewN ?_ _ | refine blk_drew ?_ | refine blk_alloc ?_ _)); refine blk_put (cs := #[.string t268, .string t269, .string t270, .string t271, .string (⟨#[]⟩ : ByteArray), .string (⟨#[]⟩ : ByteArray)]) ?_ 4 _ rfl; (with_reducible repeat (first | refine blk_drewN ?_ _ | refine blk_drew ?_ | refine blk_alloc ?_ _)); refine blk_put (cs := #[.string t268, .string t269, .string t270, .string (⟨#[]⟩ : ByteArray), .string (⟨#[]⟩ : ByteArray), .string (⟨#[]⟩ : ByteArray)]) ?_ 3 _ rfl; (with_reducible repeat (first | refine blk_drewN ?_ _ | refine blk_drew ?_ | refine blk_alloc ?_ _)); refine blk_put (cs := #[.string t268, .string t269, .string (⟨#[]⟩ : ByteArray), .string (⟨#[]⟩ : ByteArray), .string (⟨#[]⟩ : ByteArray), .string (⟨#[]⟩ : ByteArray)]) ?_ 2 _ rfl; (with_reducible repeat (first | refine blk_drewN ?_ _ | refine blk_drew ?_ | refine blk_alloc ?_ _)); refine blk_put (cs := #[.string t268, .string (⟨#[]⟩ : ByteArray), .string (⟨#[]⟩ : ByteArray), .string (⟨#[]⟩ : ByteArray), .string (⟨#[]⟩ : ByteArray), .string (⟨#[]⟩ : ByteArray)]) ?_ 1 _ rfl; (with_reducible repeat (first | refine blk_drewN ?_ _ | refine blk_drew ?_ | refine blk_alloc ?_ _)); refine blk_put (cs := #[.string (⟨#[]⟩ : ByteArray), .string (⟨#[]⟩ : ByteArray), .string (⟨#[]⟩ : ByteArray), .string (⟨#[]⟩ : ByteArray), .string (⟨#[]⟩ : ByteArray), .string (⟨#[]⟩ : ByteArray)]) ?_ 0 _ rfl; (with_reducible repeat (first | refine blk_drewN ?_ _ | refine blk_drew ?_ | refine blk_alloc ?_ _)); exact BK275.out⟩, ⟨by repeat (first | (with_reducible first | exact HB.out | apply below_alloc | apply pw_below_drewN | apply below_drew1 | refine below_set ?_ GE274.out | refine below_set ?_ GE275.out) | exact HB.out)⟩⟩
            · rw [if_neg c37] at H
              exact absurd H (by simp)
          · rw [if_neg c36] at H
            have c36b0 : ((Int.tmod (Go.bits .and .i64 a4 255) 6) == 3) = false := beq_eq_false_iff_ne.mpr c36
            have c36b1 : ((Int.tmod (Go.bits .and .i64 a4 255) 6) != 3) = true := bne_iff_ne.mpr c36
            by_cases c40 : (Int.tmod (Go.bits .and .i64 a4 255) 6) = 4
            · rw [if_pos c40] at H
              have c40b0 : ((Int.tmod (Go.bits .and .i64 a4 255) 6) == 4) = true := beq_iff_eq.mpr c40
              have c40b1 : ((Int.tmod (Go.bits .and .i64 a4 255) 6) != 4) = false := bne_eq_false_iff_eq.mpr c40
              clear c40
              by_cases c41 : t272.size + 1 ≤ 9223372036854775807
              · rw [if_pos c41] at H
                have c41b0 := eq_true c41
                have c41b1 : decide (t272.size + 1 ≤ 9223372036854775807) = true := decide_eq_true c41
                try have c41b2 : (9223372036854775807 < t272.size + 1) = False := eq_false (Nat.not_lt.2 c41)
                have H' := Aside0.mk H
                clear H
                have hnb42 := NB275_274.out
                have hnc42 := NB274_275.out
                have hcz43_0 : w21.cell? ⟨gb275, 0, none⟩ = some (.string (⟨#[]⟩ : ByteArray)) := (blk_cell BK275.out 0).trans rfl
                have hcz43_1 : w21.cell? ⟨gb275, 1, none⟩ = some (.string (⟨#[]⟩ : ByteArray)) := (blk_cell BK275.out 1).trans rfl
                have hcz43_2 : w21.cell? ⟨gb275, 2, none⟩ = some (.string (⟨#[]⟩ : ByteArray)) := (blk_cell BK275.out 2).trans rfl
                have hcz43_3 : w21.cell? ⟨gb275, 3, none⟩ = some (.string (⟨#[]⟩ : ByteArray)) := (blk_cell BK275.out 3).trans rfl
                have hcz43_4 : w21.cell? ⟨gb275, 4, none⟩ = some (.string (⟨#[]⟩ : ByteArray)) := (blk_cell BK275.out 4).trans rfl
                have hcz43_5 : w21.cell? ⟨gb275, 5, none⟩ = some (.string (⟨#[]⟩ : ByteArray)) := (blk_cell BK275.out 5).trans rfl
                have hfz43_0 := blk_frozen BK275.out 0
                have hfz43_1 := blk_frozen BK275.out 1
                have hfz43_2 := blk_frozen BK275.out 2
                have hfz43_3 := blk_frozen BK275.out 3
                have hfz43_4 := blk_frozen BK275.out 4
                have hfz43_5 := blk_frozen BK275.out 5
                go_wp2
                go_meet
                case rel => exact ⟨_, (t268), (t269), (t270), (t271), (t272 ++ (⟨#[42]⟩ : ByteArray)), (t273), H', ⟨by first | omega | exact Nat.le_refl _⟩, ⟨by (with_reducible repeat (first | refine blk_drewN ?_ _ | refine blk_drew ?_ | refine blk_alloc ?_ _)); refine blk_far ?_ NB274_275.out _; (with_reducible repeat (first | refine blk_drewN ?_ _ | refine blk_drew ?_ | refine blk_alloc ?_ _)); refine blk_far ?_ NB274_275.out _; (with_reducible repeat (first | refine blk_drewN ?_ _ | refine blk_drew ?_ | refine blk_alloc ?_ _)); refine blk_far ?_ NB274_275.out _; (with_reducible repeat (first | refine blk_drewN ?_ _ | refine blk_drew ?_ | refine blk_alloc ?_ _)); refine blk_far ?_ NB274_275.out _; (with_reducible repeat (first | refine blk_drewN ?_ _ | refine blk_drew ?_ | refine blk_alloc ?_ _)); refine blk_far ?_ NB274_275.out _; (with_reducible repeat (first | refine blk_drewN ?_ _ | refine blk_drew ?_ | refine blk_alloc ?_ _)); refine blk_far ?_ NB274_275.out _; (with_reducible repeat (first | refine blk_drewN ?_ _ | refine blk_drew ?_ | refine blk_alloc ?_ _)); refine blk_far ?_ NB274_275.out _; (with_reducible repeat (first | refine blk_drewN ?_ _ | refine blk_drew ?_ | refine blk_alloc ?_ _)); exact BK274.out⟩, ⟨by (with_reducible repeat (first | refine blk_drewN ?_ _ | refine blk_drew ?_ | refine blk_alloc ?_ _)); refine blk_put (cs := #[.string t268, .string t269, .string t270, .string t271, .string t272, .string t273]) ?_ 4 _ rfl; (with_reducible repeat (first | refine blk_drewN ?_ _ | refine blk_drew ?_ | refine blk_alloc ?_ _)); refine blk_put (cs := #[.string t268, .string t269, .string t270, .string t271, .string t272, .string (⟨#[]⟩ : ByteArray)]) ?_ 5 _ rfl; (with_reducible repeat (first | refine blk_drewN ?_ _ | refine blk_drew ?_ | refine blk_alloc ?_ _)); refine blk_put (cs := #[.string t268, .string t269, .string t270, .string t271, .string (⟨#[]⟩ : ByteArray), .string (⟨#[]⟩ : ByteArray)]) ?_ 4 _ rfl; (with_reducible repeat (first | refine blk_drewN ?_ _ | refine blk_drew ?_ | refine blk_alloc ?_ _)); refine blk_put (cs := #[.string t268, .string t269, .string t270, .string (⟨#[]⟩ : ByteArray), .string (⟨#[]⟩ : ByteArray), .string (⟨#[]⟩ : ByteArray)]) ?_ 3 _ rfl; (with_reducible repeat (first | refine blk_drewN ?_ _ | refine blk_drew ?_ | refine blk_alloc ?_ _)); refine blk_put (cs := #[.string t268, .string t269, .string (⟨#[]⟩ : ByteArray), .string (⟨#[]⟩ : ByteArray), .string (⟨#[]⟩ : ByteArray), .string (⟨#[]⟩ : ByteArray)]) ?_ 2 _ rfl; (with_reducible repeat (first | refine blk_drewN ?_ _ | refine blk_drew ?_ | refine blk_alloc ?_ _)); refine blk_put (cs := #[.string t268, .string (⟨#[]⟩ : ByteArray), .string (⟨#[]⟩ : ByteArray), .string (⟨#[]⟩ : ByteArray), .string (⟨#[]⟩ : ByteArray), .string (⟨#[]⟩ : ByteArray)]) ?_ 1 _ rfl; (with_reducible repeat (first | refine blk_drewN ?_ _ | refine blk_drew ?_ | refine blk_alloc ?_ _)); refine blk_put (cs := #[.string (⟨#[]⟩ : ByteArray), .string (⟨#[]⟩ : ByteArray), .string (⟨#[]⟩ : ByteArray), .string (⟨#[]⟩ : ByteArray), .string (⟨#[]⟩ : ByteArray), .string (⟨#[]⟩ : ByteArray)]) ?_ 0 _ rfl; (with_reducible repeat (first | refine blk_drewN ?_ _ | refine blk_drew ?_ | refine blk_alloc ?_ _)); exact BK275.out⟩, ⟨by repeat (first | (with_reducible first | exact HB.out | apply below_alloc | apply pw_below_drewN | apply below_drew1 | refine below_set ?_ GE274.out | refine below_set ?_ GE275.out) | exact HB.out)⟩⟩
              · rw [if_neg c41] at H
                exact absurd H (by simp)
            · rw [if_neg c40] at H
              have c40b0 : ((Int.tmod (Go.bits .and .i64 a4 255) 6) == 4) = false := beq_eq_false_iff_ne.mpr c40
              have c40b1 : ((Int.tmod (Go.bits .and .i64 a4 255) 6) != 4) = true := bne_iff_ne.mpr c40
              have H' := Aside0.mk H
              clear H
              have hnb44 := NB275_274.out
              have hnc44 := NB274_275.out
              have hcz45_0 : w21.cell? ⟨gb275, 0, none⟩ = some (.string (⟨#[]⟩ : ByteArray)) := (blk_cell BK275.out 0).trans rfl
              have hcz45_1 : w21.cell? ⟨gb275, 1, none⟩ = some (.string (⟨#[]⟩ : ByteArray)) := (blk_cell BK275.out 1).trans rfl
              have hcz45_2 : w21.cell? ⟨gb275, 2, none⟩ = some (.string (⟨#[]⟩ : ByteArray)) := (blk_cell BK275.out 2).trans rfl
              have hcz45_3 : w21.cell? ⟨gb275, 3, none⟩ = some (.string (⟨#[]⟩ : ByteArray)) := (blk_cell BK275.out 3).trans rfl
              have hcz45_4 : w21.cell? ⟨gb275, 4, none⟩ = some (.string (⟨#[]⟩ : ByteArray)) := (blk_cell BK275.out 4).trans rfl
              have hcz45_5 : w21.cell? ⟨gb275, 5, none⟩ = some (.string (⟨#[]⟩ : ByteArray)) := (blk_cell BK275.out 5).trans rfl
              have hfz45_0 := blk_frozen BK275.out 0
              have hfz45_1 := blk_frozen BK275.out 1
              have hfz45_2 := blk_frozen BK275.out 2
              have hfz45_3 := blk_frozen BK275.out 3
              have hfz45_4 := blk_frozen BK275.out 4
              have hfz45_5 := blk_frozen BK275.out 5
              go_wp2
              go_meet
              case rel => exact ⟨_, (t268), (t269), (t270), (t271), (t272), ((⟨#[]⟩ : ByteArray)), H', ⟨by first | omega | exact Nat.le_refl _⟩, ⟨by (with_reducible repeat (first | refine blk_drewN ?_ _ | refine blk_drew ?_ | refine blk_alloc ?_ _)); refine blk_far ?_ NB274_275.out _; (with_reducible repeat (first | refine blk_drewN ?_ _ | refine blk_drew ?_ | refine blk_alloc ?_ _)); refine blk_far ?_ NB274_275.out _; (with_reducible repeat (first | refine blk_drewN ?_ _ | refine blk_drew ?_ | refine blk_alloc ?_ _)); refine blk_far ?_ NB274_275.out _; (with_reducible repeat (first | refine blk_drewN ?_ _ | refine blk_drew ?_ | refine blk_alloc ?_ _)); refine blk_far ?_ NB274_275.out _; (with_reducible repeat (first | refine blk_drewN ?_ _ | refine blk_drew ?_ | refine blk_alloc ?_ _)); refine blk_far ?_ NB274_275.out _; (with_reducible repeat (first | refine blk_drewN ?_ _ | refine blk_drew ?_ | refine blk_alloc ?_ _)); refine blk_far ?_ NB274_275.out _; (with_reducible repeat (first | refine blk_drewN ?_ _ | refine blk_drew ?_ | refine blk_alloc ?_ _)); refine blk_far ?_ NB274_275.out _; (with_reducible repeat (first | refine blk_drewN ?_ _ | refine blk_drew ?_ | refine blk_alloc ?_ _)); exact BK274.out⟩, ⟨by (with_reducible repeat (first | refine blk_drewN ?_ _ | refine blk_drew ?_ | refine blk_alloc ?_ _)); refine blk_put (cs := #[.string t268, .string t269, .string t270, .string t271, .string t272, .string t273]) ?_ 5 _ rfl; (with_reducible repeat (first | refine blk_drewN ?_ _ | refine blk_drew ?_ | refine blk_alloc ?_ _)); refine blk_put (cs := #[.string t268, .string t269, .string t270, .string t271, .string t272, .string (⟨#[]⟩ : ByteArray)]) ?_ 5 _ rfl; (with_reducible repeat (first | refine blk_drewN ?_ _ | refine blk_drew ?_ | refine blk_alloc ?_ _)); refine blk_put (cs := #[.string t268, .string t269, .string t270, .string t271, .string (⟨#[]⟩ : ByteArray), .string (⟨#[]⟩ : ByteArray)]) ?_ 4 _ rfl; (with_reducible repeat (first | refine blk_drewN ?_ _ | refine blk_drew ?_ | refine blk_alloc ?_ _)); refine blk_put (cs := #[.string t268, .string t269, .string t270, .string (⟨#[]⟩ : ByteArray), .string (⟨#[]⟩ : ByteArray), .string (⟨#[]⟩ : ByteArray)]) ?_ 3 _ rfl; (with_reducible repeat (first | refine blk_drewN ?_ _ | refine blk_drew ?_ | refine blk_alloc ?_ _)); refine blk_put (cs := #[.string t268, .string t269, .string (⟨#[]⟩ : ByteArray), .string (⟨#[]⟩ : ByteArray), .string (⟨#[]⟩ : ByteArray), .string (⟨#[]⟩ : ByteArray)]) ?_ 2 _ rfl; (with_reducible repeat (first | refine blk_drewN ?_ _ | refine blk_drew ?_ | refine blk_alloc ?_ _)); refine blk_put (cs := #[.string t268, .string (⟨#[]⟩ : ByteArray), .string (⟨#[]⟩ : ByteArray), .string (⟨#[]⟩ : ByteArray), .string (⟨#[]⟩ : ByteArray), .string (⟨#[]⟩ : ByteArray)]) ?_ 1 _ rfl; (with_reducible repeat (first | refine blk_drewN ?_ _ | refine blk_drew ?_ | refine blk_alloc ?_ _)); refine blk_put (cs := #[.string (⟨#[]⟩ : ByteArray), .string (⟨#[]⟩ : ByteArray), .string (⟨#[]⟩ : ByteArray), .string (⟨#[]⟩ : ByteArray), .string (⟨#[]⟩ : ByteArray), .string (⟨#[]⟩ : ByteArray)]) ?_ 0 _ rfl; (with_reducible repeat (first | refine blk_drewN ?_ _ | refine blk_drew ?_ | refine blk_alloc ?_ _)); exact BK275.out⟩, ⟨by repeat (first | (with_reducible first | exact HB.out | apply below_alloc | apply pw_below_drewN | apply below_drew1 | refine below_set ?_ GE274.out | refine below_set ?_ GE275.out) | exact HB.out)⟩⟩
  case rest =>
    clear HC12
    try clear c2
    try clear p2
    try clear c3
    try clear c4
    try clear p6
    try clear c22
    try clear c24
    try clear c24b0
    try clear c24b1
    try clear c25
    try clear c25b0
    try clear c25b1
    try clear c25b2
    try clear c26
    try clear c28
    try clear c28b0
    try clear c28b1
    try clear c29
    try clear c29b0
    try clear c29b1
    try clear c29b2
    try clear c30
    try clear c32
    try clear c32b0
    try clear c32b1
    try clear c33
    try clear c33b0
    try clear c33b1
    try clear c33b2
    try clear c34
    try clear c36
    try clear c36b0
    try clear c36b1
    try clear c37
    try clear c37b0
    try clear c37b1
    try clear c37b2
    try clear c38
    try clear c40
    try clear c40b0
    try clear c40b1
    try clear c41
    try clear c41b0
    try clear c41b1
    try clear c41b2
    try clear c42
    try clear c44
    try clear hcz20_0
    try clear hcz20_1
    try clear hcz20_2
    try clear hcz20_3
    try clear hcz20_4
    try clear hcz20_5
    try clear hcz23_0
    try clear hcz23_1
    try clear hcz23_2
    try clear hcz23_3
    try clear hcz23_4
    try clear hcz23_5
    try clear hcz27_0
    try clear hcz27_1
    try clear hcz27_2
    try clear hcz27_3
    try clear hcz27_4
    try clear hcz27_5
    try clear hcz31_0
    try clear hcz31_1
    try clear hcz31_2
    try clear hcz31_3
    try clear hcz31_4
    try clear hcz31_5
    try clear hcz35_0
    try clear hcz35_1
    try clear hcz35_2
    try clear hcz35_3
    try clear hcz35_4
    try clear hcz35_5
    try clear hcz39_0
    try clear hcz39_1
    try clear hcz39_2
    try clear hcz39_3
    try clear hcz39_4
    try clear hcz39_5
    try clear hcz43_0
    try clear hcz43_1
    try clear hcz43_2
    try clear hcz43_3
    try clear hcz43_4
    try clear hcz43_5
    try clear hcz45_0
    try clear hcz45_1
    try clear hcz45_2
    try clear hcz45_3
    try clear hcz45_4
    try clear hcz45_5
    try clear hfz20_0
    try clear hfz20_1
    try clear hfz20_2
    try clear hfz20_3
    try clear hfz20_4
    try clear hfz20_5
    try clear hfz23_0
    try clear hfz23_1
    try clear hfz23_2
    try clear hfz23_3
    try clear hfz23_4
    try clear hfz23_5
    try clear hfz27_0
    try clear hfz27_1
    try clear hfz27_2
    try clear hfz27_3
    try clear hfz27_4
    try clear hfz27_5
    try clear hfz31_0
    try clear hfz31_1
    try clear hfz31_2
    try clear hfz31_3
    try clear hfz31_4
    try clear hfz31_5
    try clear hfz35_0
    try clear hfz35_1
    try clear hfz35_2
    try clear hfz35_3
    try clear hfz35_4
    try clear hfz35_5
    try clear hfz39_0
    try clear hfz39_1
    try clear hfz39_2
    try clear hfz39_3
    try clear hfz39_4
    try clear hfz39_5
    try clear hfz43_0
    try clear hfz43_1
    try clear hfz43_2
    try clear hfz43_3
    try clear hfz43_4
    try clear hfz43_5
    try clear hfz45_0
    try clear hfz45_1
    try clear hfz45_2
    try clear hfz45_3
    try clear hfz45_4
    try clear hfz45_5
    obtain ⟨kq, x276000_11, x276001_11, x276002_11, x276003_11, x276004_11, x276005_11, HA, HJ11, BK274, BK275, HB⟩ := hcut
    cases kq with
    | zero => exact absurd HA.out (by simp [entaillaw2_TuplParts.j0])
    | succ kj11 =>
      have H := HA.out
      clear HA
      simp only [entaillaw2_TuplParts.j0] at H
      replace H := Option.bind_eq_some_iff.mp H
      obtain ⟨t276, A460, H⟩ := H
      replace H : ((tupl_Parse.f kj11 t276).bind fun bt277 => ((tupl_Text.f kj11 t268 t269 t270 t271 t272 t273).bind fun t285 => ((entaillaw1_Nm.f a0).bind fun t286 => (if t286.size + 1 ≤ 9223372036854775807 then ((entaillaw1_Nm.f a1).bind fun t287 => (if (t286 ++ (⟨#[58]⟩ : ByteArray)).size + t287.size ≤ 9223372036854775807 then (if ((t286 ++ (⟨#[58]⟩ : ByteArray)) ++ t287).size + 1 ≤ 9223372036854775807 then ((entaillaw1_Nm.f a2).bind fun t288 => (if (((t286 ++ (⟨#[58]⟩ : ByteArray)) ++ t287) ++ (⟨#[35]⟩ : ByteArray)).size + t288.size ≤ 9223372036854775807 then (if ((((t286 ++ (⟨#[58]⟩ : ByteArray)) ++ t287) ++ (⟨#[35]⟩ : ByteArray)) ++ t288).size + 1 ≤ 9223372036854775807 then ((entaillaw1_Nm.f a3).bind fun t289 => (if (((((t286 ++ (⟨#[58]⟩ : ByteArray)) ++ t287) ++ (⟨#[35]⟩ : ByteArray)) ++ t288) ++ (⟨#[64]⟩ : ByteArray)).size + t289.size ≤ 9223372036854775807 then (if ((((((t286 ++ (⟨#[58]⟩ : ByteArray)) ++ t287) ++ (⟨#[35]⟩ : ByteArray)) ++ t288) ++ (⟨#[64]⟩ : ByteArray)) ++ t289).size + 1 ≤ 9223372036854775807 then ((entaillaw1_Nm.f (wrap64 (a0 + a1))).bind fun t290 => (if (((((((t286 ++ (⟨#[58]⟩ : ByteArray)) ++ t287) ++ (⟨#[35]⟩ : ByteArray)) ++ t288) ++ (⟨#[64]⟩ : ByteArray)) ++ t289) ++ (⟨#[58]⟩ : ByteArray)).size + t290.size ≤ 9223372036854775807 then (if ((((((((t286 ++ (⟨#[58]⟩ : ByteArray)) ++ t287) ++ (⟨#[35]⟩ : ByteArray)) ++ t288) ++ (⟨#[64]⟩ : ByteArray)) ++ t289) ++ (⟨#[58]⟩ : ByteArray)) ++ t290).size + 1 ≤ 9223372036854775807 then ((entaillaw1_Nm.f (wrap64 (a2 + a3))).bind fun t291 => (if (((((((((t286 ++ (⟨#[58]⟩ : ByteArray)) ++ t287) ++ (⟨#[35]⟩ : ByteArray)) ++ t288) ++ (⟨#[64]⟩ : ByteArray)) ++ t289) ++ (⟨#[58]⟩ : ByteArray)) ++ t290) ++ (⟨#[35]⟩ : ByteArray)).size + t291.size ≤ 9223372036854775807 then (if t285.toList = ((((((((((t286 ++ (⟨#[58]⟩ : ByteArray)) ++ t287) ++ (⟨#[35]⟩ : ByteArray)) ++ t288) ++ (⟨#[64]⟩ : ByteArray)) ++ t289) ++ (⟨#[58]⟩ : ByteArray)) ++ t290) ++ (⟨#[35]⟩ : ByteArray)) ++ t291).toList then ((tupl_Text.f kj11 x276000_11 x276001_11 x276002_11 x276003_11 x276004_11 x276005_11).bind fun t292 => ((tupl_Text.f kj11 t268 t269 t270 t271 t272 t273).bind fun t293 => (if t292.toList = t293.toList then (none) else (if bt277.2.2.2.2.2.2 = true then (if ((bt277.1.toList == x276000_11.toList && (bt277.2.1.toList == x276001_11.toList)) && (bt277.2.2.1.toList == x276002_11.toList && ((bt277.2.2.2.1.toList == x276003_11.toList && (bt277.2.2.2.2.1.toList == x276004_11.toList && (bt277.2.2.2.2.2.1.toList == x276005_11.toList)))))) = true then ((tupl_Less.f kj11 t268 t269 t270 t271 t272 t273 x276000_11 x276001_11 x276002_11 x276003_11 x276004_11 x276005_11).bind fun t294 => ((tupl_Less.f kj11 x276000_11 x276001_11 x276002_11 x276003_11 x276004_11 x276005_11 t268 t269 t270 t271 t272 t273).bind fun t295 => (if (t294 != t295) = true then ((entaillaw2_awake.f kj11).bind fun t296 => (some t296)) else (none)))) else (none)) else (none))))) else (none)) else (none))) else (none)) else (none))) else (none)) else (none))) else (none)) else (none))) else (none)) else (none))) else (none))))) = some r := H
      have A46 := Aside0.mk A460
      clear A460
      replace H := Option.bind_eq_some_iff.mp H
      obtain ⟨⟨t277, t278, t279, t280, t281, t282, t283⟩, A470, H⟩ := H
      replace H : ((tupl_Text.f kj11 t268 t269 t270 t271 t272 t273).bind fun t285 => ((entaillaw1_Nm.f a0).bind fun t286 => (if t286.size + 1 ≤ 9223372036854775807 then ((entaillaw1_Nm.f a1).bind fun t287 => (if (t286 ++ (⟨#[58]⟩ : ByteArray)).size + t287.size ≤ 9223372036854775807 then (if ((t286 ++ (⟨#[58]⟩ : ByteArray)) ++ t287).size + 1 ≤ 9223372036854775807 then ((entaillaw1_Nm.f a2).bind fun t288 => (if (((t286 ++ (⟨#[58]⟩ : ByteArray)) ++ t287) ++ (⟨#[35]⟩ : ByteArray)).size + t288.size ≤ 9223372036854775807 then (if ((((t286 ++ (⟨#[58]⟩ : ByteArray)) ++ t287) ++ (⟨#[35]⟩ : ByteArray)) ++ t288).size + 1 ≤ 9223372036854775807 then ((entaillaw1_Nm.f a3).bind fun t289 => (if (((((t286 ++ (⟨#[58]⟩ : ByteArray)) ++ t287) ++ (⟨#[35]⟩ : ByteArray)) ++ t288) ++ (⟨#[64]⟩ : ByteArray)).size + t289.size ≤ 9223372036854775807 then (if ((((((t286 ++ (⟨#[58]⟩ : ByteArray)) ++ t287) ++ (⟨#[35]⟩ : ByteArray)) ++ t288) ++ (⟨#[64]⟩ : ByteArray)) ++ t289).size + 1 ≤ 9223372036854775807 then ((entaillaw1_Nm.f (wrap64 (a0 + a1))).bind fun t290 => (if (((((((t286 ++ (⟨#[58]⟩ : ByteArray)) ++ t287) ++ (⟨#[35]⟩ : ByteArray)) ++ t288) ++ (⟨#[64]⟩ : ByteArray)) ++ t289) ++ (⟨#[58]⟩ : ByteArray)).size + t290.size ≤ 9223372036854775807 then (if ((((((((t286 ++ (⟨#[58]⟩ : ByteArray)) ++ t287) ++ (⟨#[35]⟩ : ByteArray)) ++ t288) ++ (⟨#[64]⟩ : ByteArray)) ++ t289) ++ (⟨#[58]⟩ : ByteArray)) ++ t290).size + 1 ≤ 9223372036854775807 then ((entaillaw1_Nm.f (wrap64 (a2 + a3))).bind fun t291 => (if (((((((((t286 ++ (⟨#[58]⟩ : ByteArray)) ++ t287) ++ (⟨#[35]⟩ : ByteArray)) ++ t288) ++ (⟨#[64]⟩ : ByteArray)) ++ t289) ++ (⟨#[58]⟩ : ByteArray)) ++ t290) ++ (⟨#[35]⟩ : ByteArray)).size + t291.size ≤ 9223372036854775807 then (if t285.toList = ((((((((((t286 ++ (⟨#[58]⟩ : ByteArray)) ++ t287) ++ (⟨#[35]⟩ : ByteArray)) ++ t288) ++ (⟨#[64]⟩ : ByteArray)) ++ t289) ++ (⟨#[58]⟩ : ByteArray)) ++ t290) ++ (⟨#[35]⟩ : ByteArray)) ++ t291).toList then ((tupl_Text.f kj11 x276000_11 x276001_11 x276002_11 x276003_11 x276004_11 x276005_11).bind fun t292 => ((tupl_Text.f kj11 t268 t269 t270 t271 t272 t273).bind fun t293 => (if t292.toList = t293.toList then (none) else (if t283 = true then (if ((t277.toList == x276000_11.toList && (t278.toList == x276001_11.toList)) && (t279.toList == x276002_11.toList && ((t280.toList == x276003_11.toList && (t281.toList == x276004_11.toList && (t282.toList == x276005_11.toList)))))) = true then ((tupl_Less.f kj11 t268 t269 t270 t271 t272 t273 x276000_11 x276001_11 x276002_11 x276003_11 x276004_11 x276005_11).bind fun t294 => ((tupl_Less.f kj11 x276000_11 x276001_11 x276002_11 x276003_11 x276004_11 x276005_11 t268 t269 t270 t271 t272 t273).bind fun t295 => (if (t294 != t295) = true then ((entaillaw2_awake.f kj11).bind fun t296 => (some t296)) else (none)))) else (none)) else (none))))) else (none)) else (none))) else (none)) else (none))) else (none)) else (none))) else (none)) else (none))) else (none)) else (none))) else (none)))) = some r := H
      have A47 := Aside0.mk A470
      clear A470
      replace H := Option.bind_eq_some_iff.mp H
      obtain ⟨t285, A480, H⟩ := H
      replace H : ((entaillaw1_Nm.f a0).bind fun t286 => (if t286.size + 1 ≤ 9223372036854775807 then ((entaillaw1_Nm.f a1).bind fun t287 => (if (t286 ++ (⟨#[58]⟩ : ByteArray)).size + t287.size ≤ 9223372036854775807 then (if ((t286 ++ (⟨#[58]⟩ : ByteArray)) ++ t287).size + 1 ≤ 9223372036854775807 then ((entaillaw1_Nm.f a2).bind fun t288 => (if (((t286 ++ (⟨#[58]⟩ : ByteArray)) ++ t287) ++ (⟨#[35]⟩ : ByteArray)).size + t288.size ≤ 9223372036854775807 then (if ((((t286 ++ (⟨#[58]⟩ : ByteArray)) ++ t287) ++ (⟨#[35]⟩ : ByteArray)) ++ t288).size + 1 ≤ 9223372036854775807 then ((entaillaw1_Nm.f a3).bind fun t289 => (if (((((t286 ++ (⟨#[58]⟩ : ByteArray)) ++ t287) ++ (⟨#[35]⟩ : ByteArray)) ++ t288) ++ (⟨#[64]⟩ : ByteArray)).size + t289.size ≤ 9223372036854775807 then (if ((((((t286 ++ (⟨#[58]⟩ : ByteArray)) ++ t287) ++ (⟨#[35]⟩ : ByteArray)) ++ t288) ++ (⟨#[64]⟩ : ByteArray)) ++ t289).size + 1 ≤ 9223372036854775807 then ((entaillaw1_Nm.f (wrap64 (a0 + a1))).bind fun t290 => (if (((((((t286 ++ (⟨#[58]⟩ : ByteArray)) ++ t287) ++ (⟨#[35]⟩ : ByteArray)) ++ t288) ++ (⟨#[64]⟩ : ByteArray)) ++ t289) ++ (⟨#[58]⟩ : ByteArray)).size + t290.size ≤ 9223372036854775807 then (if ((((((((t286 ++ (⟨#[58]⟩ : ByteArray)) ++ t287) ++ (⟨#[35]⟩ : ByteArray)) ++ t288) ++ (⟨#[64]⟩ : ByteArray)) ++ t289) ++ (⟨#[58]⟩ : ByteArray)) ++ t290).size + 1 ≤ 9223372036854775807 then ((entaillaw1_Nm.f (wrap64 (a2 + a3))).bind fun t291 => (if (((((((((t286 ++ (⟨#[58]⟩ : ByteArray)) ++ t287) ++ (⟨#[35]⟩ : ByteArray)) ++ t288) ++ (⟨#[64]⟩ : ByteArray)) ++ t289) ++ (⟨#[58]⟩ : ByteArray)) ++ t290) ++ (⟨#[35]⟩ : ByteArray)).size + t291.size ≤ 9223372036854775807 then (if t285.toList = ((((((((((t286 ++ (⟨#[58]⟩ : ByteArray)) ++ t287) ++ (⟨#[35]⟩ : ByteArray)) ++ t288) ++ (⟨#[64]⟩ : ByteArray)) ++ t289) ++ (⟨#[58]⟩ : ByteArray)) ++ t290) ++ (⟨#[35]⟩ : ByteArray)) ++ t291).toList then ((tupl_Text.f kj11 x276000_11 x276001_11 x276002_11 x276003_11 x276004_11 x276005_11).bind fun t292 => ((tupl_Text.f kj11 t268 t269 t270 t271 t272 t273).bind fun t293 => (if t292.toList = t293.toList then (none) else (if t283 = true then (if ((t277.toList == x276000_11.toList && (t278.toList == x276001_11.toList)) && (t279.toList == x276002_11.toList && ((t280.toList == x276003_11.toList && (t281.toList == x276004_11.toList && (t282.toList == x276005_11.toList)))))) = true then ((tupl_Less.f kj11 t268 t269 t270 t271 t272 t273 x276000_11 x276001_11 x276002_11 x276003_11 x276004_11 x276005_11).bind fun t294 => ((tupl_Less.f kj11 x276000_11 x276001_11 x276002_11 x276003_11 x276004_11 x276005_11 t268 t269 t270 t271 t272 t273).bind fun t295 => (if (t294 != t295) = true then ((entaillaw2_awake.f kj11).bind fun t296 => (some t296)) else (none)))) else (none)) else (none))))) else (none)) else (none))) else (none)) else (none))) else (none)) else (none))) else (none)) else (none))) else (none)) else (none))) else (none))) = some r := H
      have A48 := Aside0.mk A480
      clear A480
      replace H := Option.bind_eq_some_iff.mp H
      obtain ⟨t286, A490, H⟩ := H
      replace H : (if t286.size + 1 ≤ 9223372036854775807 then ((entaillaw1_Nm.f a1).bind fun t287 => (if (t286 ++ (⟨#[58]⟩ : ByteArray)).size + t287.size ≤ 9223372036854775807 then (if ((t286 ++ (⟨#[58]⟩ : ByteArray)) ++ t287).size + 1 ≤ 9223372036854775807 then ((entaillaw1_Nm.f a2).bind fun t288 => (if (((t286 ++ (⟨#[58]⟩ : ByteArray)) ++ t287) ++ (⟨#[35]⟩ : ByteArray)).size + t288.size ≤ 9223372036854775807 then (if ((((t286 ++ (⟨#[58]⟩ : ByteArray)) ++ t287) ++ (⟨#[35]⟩ : ByteArray)) ++ t288).size + 1 ≤ 9223372036854775807 then ((entaillaw1_Nm.f a3).bind fun t289 => (if (((((t286 ++ (⟨#[58]⟩ : ByteArray)) ++ t287) ++ (⟨#[35]⟩ : ByteArray)) ++ t288) ++ (⟨#[64]⟩ : ByteArray)).size + t289.size ≤ 9223372036854775807 then (if ((((((t286 ++ (⟨#[58]⟩ : ByteArray)) ++ t287) ++ (⟨#[35]⟩ : ByteArray)) ++ t288) ++ (⟨#[64]⟩ : ByteArray)) ++ t289).size + 1 ≤ 9223372036854775807 then ((entaillaw1_Nm.f (wrap64 (a0 + a1))).bind fun t290 => (if (((((((t286 ++ (⟨#[58]⟩ : ByteArray)) ++ t287) ++ (⟨#[35]⟩ : ByteArray)) ++ t288) ++ (⟨#[64]⟩ : ByteArray)) ++ t289) ++ (⟨#[58]⟩ : ByteArray)).size + t290.size ≤ 9223372036854775807 then (if ((((((((t286 ++ (⟨#[58]⟩ : ByteArray)) ++ t287) ++ (⟨#[35]⟩ : ByteArray)) ++ t288) ++ (⟨#[64]⟩ : ByteArray)) ++ t289) ++ (⟨#[58]⟩ : ByteArray)) ++ t290).size + 1 ≤ 9223372036854775807 then ((entaillaw1_Nm.f (wrap64 (a2 + a3))).bind fun t291 => (if (((((((((t286 ++ (⟨#[58]⟩ : ByteArray)) ++ t287) ++ (⟨#[35]⟩ : ByteArray)) ++ t288) ++ (⟨#[64]⟩ : ByteArray)) ++ t289) ++ (⟨#[58]⟩ : ByteArray)) ++ t290) ++ (⟨#[35]⟩ : ByteArray)).size + t291.size ≤ 9223372036854775807 then (if t285.toList = ((((((((((t286 ++ (⟨#[58]⟩ : ByteArray)) ++ t287) ++ (⟨#[35]⟩ : ByteArray)) ++ t288) ++ (⟨#[64]⟩ : ByteArray)) ++ t289) ++ (⟨#[58]⟩ : ByteArray)) ++ t290) ++ (⟨#[35]⟩ : ByteArray)) ++ t291).toList then ((tupl_Text.f kj11 x276000_11 x276001_11 x276002_11 x276003_11 x276004_11 x276005_11).bind fun t292 => ((tupl_Text.f kj11 t268 t269 t270 t271 t272 t273).bind fun t293 => (if t292.toList = t293.toList then (none) else (if t283 = true then (if ((t277.toList == x276000_11.toList && (t278.toList == x276001_11.toList)) && (t279.toList == x276002_11.toList && ((t280.toList == x276003_11.toList && (t281.toList == x276004_11.toList && (t282.toList == x276005_11.toList)))))) = true then ((tupl_Less.f kj11 t268 t269 t270 t271 t272 t273 x276000_11 x276001_11 x276002_11 x276003_11 x276004_11 x276005_11).bind fun t294 => ((tupl_Less.f kj11 x276000_11 x276001_11 x276002_11 x276003_11 x276004_11 x276005_11 t268 t269 t270 t271 t272 t273).bind fun t295 => (if (t294 != t295) = true then ((entaillaw2_awake.f kj11).bind fun t296 => (some t296)) else (none)))) else (none)) else (none))))) else (none)) else (none))) else (none)) else (none))) else (none)) else (none))) else (none)) else (none))) else (none)) else (none))) else (none)) = some r := H
      have A49 := Aside0.mk A490
      clear A490
      by_cases c50 : t286.size + 1 ≤ 9223372036854775807
      · rw [if_pos c50] at H
        have c50b0 := eq_true c50
        have c50b1 : decide (t286.size + 1 ≤ 9223372036854775807) = true := decide_eq_true c50
        try have c50b2 : (9223372036854775807 < t286.size + 1) = False := eq_false (Nat.not_lt.2 c50)
        replace H := Option.bind_eq_some_iff.mp H
        obtain ⟨t287, A510, H⟩ := H
        replace H : (if (t286 ++ (⟨#[58]⟩ : ByteArray)).size + t287.size ≤ 9223372036854775807 then (if ((t286 ++ (⟨#[58]⟩ : ByteArray)) ++ t287).size + 1 ≤ 9223372036854775807 then ((entaillaw1_Nm.f a2).bind fun t288 => (if (((t286 ++ (⟨#[58]⟩ : ByteArray)) ++ t287) ++ (⟨#[35]⟩ : ByteArray)).size + t288.size ≤ 9223372036854775807 then (if ((((t286 ++ (⟨#[58]⟩ : ByteArray)) ++ t287) ++ (⟨#[35]⟩ : ByteArray)) ++ t288).size + 1 ≤ 9223372036854775807 then ((entaillaw1_Nm.f a3).bind fun t289 => (if (((((t286 ++ (⟨#[58]⟩ : ByteArray)) ++ t287) ++ (⟨#[35]⟩ : ByteArray)) ++ t288) ++ (⟨#[64]⟩ : ByteArray)).size + t289.size ≤ 9223372036854775807 then (if ((((((t286 ++ (⟨#[58]⟩ : ByteArray)) ++ t287) ++ (⟨#[35]⟩ : ByteArray)) ++ t288) ++ (⟨#[64]⟩ : ByteArray)) ++ t289).size + 1 ≤ 9223372036854775807 then ((entaillaw1_Nm.f (wrap64 (a0 + a1))).bind fun t290 => (if (((((((t286 ++ (⟨#[58]⟩ : ByteArray)) ++ t287) ++ (⟨#[35]⟩ : ByteArray)) ++ t288) ++ (⟨#[64]⟩ : ByteArray)) ++ t289) ++ (⟨#[58]⟩ : ByteArray)).size + t290.size ≤ 9223372036854775807 then (if ((((((((t286 ++ (⟨#[58]⟩ : ByteArray)) ++ t287) ++ (⟨#[35]⟩ : ByteArray)) ++ t288) ++ (⟨#[64]⟩ : ByteArray)) ++ t289) ++ (⟨#[58]⟩ : ByteArray)) ++ t290).size + 1 ≤ 9223372036854775807 then ((entaillaw1_Nm.f (wrap64 (a2 + a3))).bind fun t291 => (if (((((((((t286 ++ (⟨#[58]⟩ : ByteArray)) ++ t287) ++ (⟨#[35]⟩ : ByteArray)) ++ t288) ++ (⟨#[64]⟩ : ByteArray)) ++ t289) ++ (⟨#[58]⟩ : ByteArray)) ++ t290) ++ (⟨#[35]⟩ : ByteArray)).size + t291.size ≤ 9223372036854775807 then (if t285.toList = ((((((((((t286 ++ (⟨#[58]⟩ : ByteArray)) ++ t287) ++ (⟨#[35]⟩ : ByteArray)) ++ t288) ++ (⟨#[64]⟩ : ByteArray)) ++ t289) ++ (⟨#[58]⟩ : ByteArray)) ++ t290) ++ (⟨#[35]⟩ : ByteArray)) ++ t291).toList then ((tupl_Text.f kj11 x276000_11 x276001_11 x276002_11 x276003_11 x276004_11 x276005_11).bind fun t292 => ((tupl_Text.f kj11 t268 t269 t270 t271 t272 t273).bind fun t293 => (if t292.toList = t293.toList then (none) else (if t283 = true then (if ((t277.toList == x276000_11.toList && (t278.toList == x276001_11.toList)) && (t279.toList == x276002_11.toList && ((t280.toList == x276003_11.toList && (t281.toList == x276004_11.toList && (t282.toList == x276005_11.toList)))))) = true then ((tupl_Less.f kj11 t268 t269 t270 t271 t272 t273 x276000_11 x276001_11 x276002_11 x276003_11 x276004_11 x276005_11).bind fun t294 => ((tupl_Less.f kj11 x276000_11 x276001_11 x276002_11 x276003_11 x276004_11 x276005_11 t268 t269 t270 t271 t272 t273).bind fun t295 => (if (t294 != t295) = true then ((entaillaw2_awake.f kj11).bind fun t296 => (some t296)) else (none)))) else (none)) else (none))))) else (none)) else (none))) else (none)) else (none))) else (none)) else (none))) else (none)) else (none))) else (none)) else (none)) = some r := H
        have A51 := Aside0.mk A510
        clear A510
        by_cases c52 : (t286 ++ (⟨#[58]⟩ : ByteArray)).size + t287.size ≤ 9223372036854775807
        · rw [if_pos c52] at H
          have c52e := c52
          (try simp only [ByteArray.size_append, ByteArray.size_extract, Nat.min_self, show (⟨#[58]⟩ : ByteArray).size = 1 from rfl] at c52e)
          have c52e0 := eq_true c52e
          have c52e1 := decide_eq_true c52e
          (try have c52e2 := eq_false (Nat.not_lt.2 c52e))
          clear c52e
          have c52b0 := eq_true c52
          have c52b1 : decide ((t286 ++ (⟨#[58]⟩ : ByteArray)).size + t287.size ≤ 9223372036854775807) = true := decide_eq_true c52
          try have c52b2 : (9223372036854775807 < (t286 ++ (⟨#[58]⟩ : ByteArray)).size + t287.size) = False := eq_false (Nat.not_lt.2 c52)
          by_cases c53 : ((t286 ++ (⟨#[58]⟩ : ByteArray)) ++ t287).size + 1 ≤ 9223372036854775807
          · rw [if_pos c53] at H
            have c53e := c53
            (try simp only [ByteArray.size_append, ByteArray.size_extract, Nat.min_self, show (⟨#[58]⟩ : ByteArray).size = 1 from rfl] at c53e)
            have c53e0 := eq_true c53e
            have c53e1 := decide_eq_true c53e
            (try have c53e2 := eq_false (Nat.not_lt.2 c53e))
            clear c53e
            have c53b0 := eq_true c53
            have c53b1 : decide (((t286 ++ (⟨#[58]⟩ : ByteArray)) ++ t287).size + 1 ≤ 9223372036854775807) = true := decide_eq_true c53
            try have c53b2 : (9223372036854775807 < ((t286 ++ (⟨#[58]⟩ : ByteArray)) ++ t287).size + 1) = False := eq_false (Nat.not_lt.2 c53)
            replace H := Option.bind_eq_some_iff.mp H
            obtain ⟨t288, A540, H⟩ := H
            replace H : (if (((t286 ++ (⟨#[58]⟩ : ByteArray)) ++ t287) ++ (⟨#[35]⟩ : ByteArray)).size + t288.size ≤ 9223372036854775807 then (if ((((t286 ++ (⟨#[58]⟩ : ByteArray)) ++ t287) ++ (⟨#[35]⟩ : ByteArray)) ++ t288).size + 1 ≤ 9223372036854775807 then ((entaillaw1_Nm.f a3).bind fun t289 => (if (((((t286 ++ (⟨#[58]⟩ : ByteArray)) ++ t287) ++ (⟨#[35]⟩ : ByteArray)) ++ t288) ++ (⟨#[64]⟩ : ByteArray)).size + t289.size ≤ 9223372036854775807 then (if ((((((t286 ++ (⟨#[58]⟩ : ByteArray)) ++ t287) ++ (⟨#[35]⟩ : ByteArray)) ++ t288) ++ (⟨#[64]⟩ : ByteArray)) ++ t289).size + 1 ≤ 9223372036854775807 then ((entaillaw1_Nm.f (wrap64 (a0 + a1))).bind fun t290 => (if (((((((t286 ++ (⟨#[58]⟩ : ByteArray)) ++ t287) ++ (⟨#[35]⟩ : ByteArray)) ++ t288) ++ (⟨#[64]⟩ : ByteArray)) ++ t289) ++ (⟨#[58]⟩ : ByteArray)).size + t290.size ≤ 9223372036854775807 then (if ((((((((t286 ++ (⟨#[58]⟩ : ByteArray)) ++ t287) ++ (⟨#[35]⟩ : ByteArray)) ++ t288) ++ (⟨#[64]⟩ : ByteArray)) ++ t289) ++ (⟨#[58]⟩ : ByteArray)) ++ t290).size + 1 ≤ 9223372036854775807 then ((entaillaw1_Nm.f (wrap64 (a2 + a3))).bind fun t291 => (if (((((((((t286 ++ (⟨#[58]⟩ : ByteArray)) ++ t287) ++ (⟨#[35]⟩ : ByteArray)) ++ t288) ++ (⟨#[64]⟩ : ByteArray)) ++ t289) ++ (⟨#[58]⟩ : ByteArray)) ++ t290) ++ (⟨#[35]⟩ : ByteArray)).size + t291.size ≤ 9223372036854775807 then (if t285.toList = ((((((((((t286 ++ (⟨#[58]⟩ : ByteArray)) ++ t287) ++ (⟨#[35]⟩ : ByteArray)) ++ t288) ++ (⟨#[64]⟩ : ByteArray)) ++ t289) ++ (⟨#[58]⟩ : ByteArray)) ++ t290) ++ (⟨#[35]⟩ : ByteArray)) ++ t291).toList then ((tupl_Text.f kj11 x276000_11 x276001_11 x276002_11 x276003_11 x276004_11 x276005_11).bind fun t292 => ((tupl_Text.f kj11 t268 t269 t270 t271 t272 t273).bind fun t293 => (if t292.toList = t293.toList then (none) else (if t283 = true then (if ((t277.toList == x276000_11.toList && (t278.toList == x276001_11.toList)) && (t279.toList == x276002_11.toList && ((t280.toList == x276003_11.toList && (t281.toList == x276004_11.toList && (t282.toList == x276005_11.toList)))))) = true then ((tupl_Less.f kj11 t268 t269 t270 t271 t272 t273 x276000_11 x276001_11 x276002_11 x276003_11 x276004_11 x276005_11).bind fun t294 => ((tupl_Less.f kj11 x276000_11 x276001_11 x276002_11 x276003_11 x276004_11 x276005_11 t268 t269 t270 t271 t272 t273).bind fun t295 => (if (t294 != t295) = true then ((entaillaw2_awake.f kj11).bind fun t296 => (some t296)) else (none)))) else (none)) else (none))))) else (none)) else (none))) else (none)) else (none))) else (none)) else (none))) else (none)) else (none)) = some r := H
            have A54 := Aside0.mk A540
            clear A540
            by_cases c55 : (((t286 ++ (⟨#[58]⟩ : ByteArray)) ++ t287) ++ (⟨#[35]⟩ : ByteArray)).size + t288.size ≤ 9223372036854775807
            · rw [if_pos c55] at H
              have c55e := c55
              (try simp only [ByteArray.size_append, ByteArray.size_extract, Nat.min_self, show (⟨#[35]⟩ : ByteArray).size = 1 from rfl, show (⟨#[58]⟩ : ByteArray).size = 1 from rfl] at c55e)
              have c55e0 := eq_true c55e
              have c55e1 := decide_eq_true c55e
              (try have c55e2 := eq_false (Nat.not_lt.2 c55e))
              clear c55e
              have c55b0 := eq_true c55
              have c55b1 : decide ((((t286 ++ (⟨#[58]⟩ : ByteArray)) ++ t287) ++ (⟨#[35]⟩ : ByteArray)).size + t288.size ≤ 9223372036854775807) = true := decide_eq_true c55
              try have c55b2 : (9223372036854775807 < (((t286 ++ (⟨#[58]⟩ : ByteArray)) ++ t287) ++ (⟨#[35]⟩ : ByteArray)).size + t288.size) = False := eq_false (Nat.not_lt.2 c55)
              by_cases c56 : ((((t286 ++ (⟨#[58]⟩ : ByteArray)) ++ t287) ++ (⟨#[35]⟩ : ByteArray)) ++ t288).size + 1 ≤ 9223372036854775807
              · rw [if_pos c56] at H
                have c56e := c56
                (try simp only [ByteArray.size_append, ByteArray.size_extract, Nat.min_self, show (⟨#[35]⟩ : ByteArray).size = 1 from rfl, show (⟨#[58]⟩ : ByteArray).size = 1 from rfl] at c56e)
                have c56e0 := eq_true c56e
                have c56e1 := decide_eq_true c56e
                (try have c56e2 := eq_false (Nat.not_lt.2 c56e))
                clear c56e
                have c56b0 := eq_true c56
                have c56b1 : decide (((((t286 ++ (⟨#[58]⟩ : ByteArray)) ++ t287) ++ (⟨#[35]⟩ : ByteArray)) ++ t288).size + 1 ≤ 9223372036854775807) = true := decide_eq_true c56
                try have c56b2 : (9223372036854775807 < ((((t286 ++ (⟨#[58]⟩ : ByteArray)) ++ t287) ++ (⟨#[35]⟩ : ByteArray)) ++ t288).size + 1) = False := eq_false (Nat.not_lt.2 c56)
                replace H := Option.bind_eq_some_iff.mp H
                obtain ⟨t289, A570, H⟩ := H
                replace H : (if (((((t286 ++ (⟨#[58]⟩ : ByteArray)) ++ t287) ++ (⟨#[35]⟩ : ByteArray)) ++ t288) ++ (⟨#[64]⟩ : ByteArray)).size + t289.size ≤ 9223372036854775807 then (if ((((((t286 ++ (⟨#[58]⟩ : ByteArray)) ++ t287) ++ (⟨#[35]⟩ : ByteArray)) ++ t288) ++ (⟨#[64]⟩ : ByteArray)) ++ t289).size + 1 ≤ 9223372036854775807 then ((entaillaw1_Nm.f (wrap64 (a0 + a1))).bind fun t290 => (if (((((((t286 ++ (⟨#[58]⟩ : ByteArray)) ++ t287) ++ (⟨#[35]⟩ : ByteArray)) ++ t288) ++ (⟨#[64]⟩ : ByteArray)) ++ t289) ++ (⟨#[58]⟩ : ByteArray)).size + t290.size ≤ 9223372036854775807 then (if ((((((((t286 ++ (⟨#[58]⟩ : ByteArray)) ++ t287) ++ (⟨#[35]⟩ : ByteArray)) ++ t288) ++ (⟨#[64]⟩ : ByteArray)) ++ t289) ++ (⟨#[58]⟩ : ByteArray)) ++ t290).size + 1 ≤ 9223372036854775807 then ((entaillaw1_Nm.f (wrap64 (a2 + a3))).bind fun t291 => (if (((((((((t286 ++ (⟨#[58]⟩ : ByteArray)) ++ t287) ++ (⟨#[35]⟩ : ByteArray)) ++ t288) ++ (⟨#[64]⟩ : ByteArray)) ++ t289) ++ (⟨#[58]⟩ : ByteArray)) ++ t290) ++ (⟨#[35]⟩ : ByteArray)).size + t291.size ≤ 9223372036854775807 then (if t285.toList = ((((((((((t286 ++ (⟨#[58]⟩ : ByteArray)) ++ t287) ++ (⟨#[35]⟩ : ByteArray)) ++ t288) ++ (⟨#[64]⟩ : ByteArray)) ++ t289) ++ (⟨#[58]⟩ : ByteArray)) ++ t290) ++ (⟨#[35]⟩ : ByteArray)) ++ t291).toList then ((tupl_Text.f kj11 x276000_11 x276001_11 x276002_11 x276003_11 x276004_11 x276005_11).bind fun t292 => ((tupl_Text.f kj11 t268 t269 t270 t271 t272 t273).bind fun t293 => (if t292.toList = t293.toList then (none) else (if t283 = true then (if ((t277.toList == x276000_11.toList && (t278.toList == x276001_11.toList)) && (t279.toList == x276002_11.toList && ((t280.toList == x276003_11.toList && (t281.toList == x276004_11.toList && (t282.toList == x276005_11.toList)))))) = true then ((tupl_Less.f kj11 t268 t269 t270 t271 t272 t273 x276000_11 x276001_11 x276002_11 x276003_11 x276004_11 x276005_11).bind fun t294 => ((tupl_Less.f kj11 x276000_11 x276001_11 x276002_11 x276003_11 x276004_11 x276005_11 t268 t269 t270 t271 t272 t273).bind fun t295 => (if (t294 != t295) = true then ((entaillaw2_awake.f kj11).bind fun t296 => (some t296)) else (none)))) else (none)) else (none))))) else (none)) else (none))) else (none)) else (none))) else (none)) else (none)) = some r := H
                have A57 := Aside0.mk A570
                clear A570
                by_cases c58 : (((((t286 ++ (⟨#[58]⟩ : ByteArray)) ++ t287) ++ (⟨#[35]⟩ : ByteArray)) ++ t288) ++ (⟨#[64]⟩ : ByteArray)).size + t289.size ≤ 9223372036854775807
                · rw [if_pos c58] at H
                  have c58e := c58
                  (try simp only [ByteArray.size_append, ByteArray.size_extract, Nat.min_self, show (⟨#[35]⟩ : ByteArray).size = 1 from rfl, show (⟨#[58]⟩ : ByteArray).size = 1 from rfl, show (⟨#[64]⟩ : ByteArray).size = 1 from rfl] at c58e)
                  have c58e0 := eq_true c58e
                  have c58e1 := decide_eq_true c58e
                  (try have c58e2 := eq_false (Nat.not_lt.2 c58e))
                  clear c58e
                  have c58b0 := eq_true c58
                  have c58b1 : decide ((((((t286 ++ (⟨#[58]⟩ : ByteArray)) ++ t287) ++ (⟨#[35]⟩ : ByteArray)) ++ t288) ++ (⟨#[64]⟩ : ByteArray)).size + t289.size ≤ 9223372036854775807) = true := decide_eq_true c58
                  try have c58b2 : (9223372036854775807 < (((((t286 ++ (⟨#[58]⟩ : ByteArray)) ++ t287) ++ (⟨#[35]⟩ : ByteArray)) ++ t288) ++ (⟨#[64]⟩ : ByteArray)).size + t289.size) = False := eq_false (Nat.not_lt.2 c58)
                  by_cases c59 : ((((((t286 ++ (⟨#[58]⟩ : ByteArray)) ++ t287) ++ (⟨#[35]⟩ : ByteArray)) ++ t288) ++ (⟨#[64]⟩ : ByteArray)) ++ t289).size + 1 ≤ 9223372036854775807
                  · rw [if_pos c59] at H
                    have c59e := c59
                    (try simp only [ByteArray.size_append, ByteArray.size_extract, Nat.min_self, show (⟨#[35]⟩ : ByteArray).size = 1 from rfl, show (⟨#[58]⟩ : ByteArray).size = 1 from rfl, show (⟨#[64]⟩ : ByteArray).size = 1 from rfl] at c59e)
                    have c59e0 := eq_true c59e
                    have c59e1 := decide_eq_true c59e
                    (try have c59e2 := eq_false (Nat.not_lt.2 c59e))
                    clear c59e
                    have c59b0 := eq_true c59
                    have c59b1 : decide (((((((t286 ++ (⟨#[58]⟩ : ByteArray)) ++ t287) ++ (⟨#[35]⟩ : ByteArray)) ++ t288) ++ (⟨#[64]⟩ : ByteArray)) ++ t289).size + 1 ≤ 9223372036854775807) = true := decide_eq_true c59
                    try have c59b2 : (9223372036854775807 < ((((((t286 ++ (⟨#[58]⟩ : ByteArray)) ++ t287) ++ (⟨#[35]⟩ : ByteArray)) ++ t288) ++ (⟨#[64]⟩ : ByteArray)) ++ t289).size + 1) = False := eq_false (Nat.not_lt.2 c59)
                    replace H := Option.bind_eq_some_iff.mp H
                    obtain ⟨t290, A600, H⟩ := H
                    replace H : (if (((((((t286 ++ (⟨#[58]⟩ : ByteArray)) ++ t287) ++ (⟨#[35]⟩ : ByteArray)) ++ t288) ++ (⟨#[64]⟩ : ByteArray)) ++ t289) ++ (⟨#[58]⟩ : ByteArray)).size + t290.size ≤ 9223372036854775807 then (if ((((((((t286 ++ (⟨#[58]⟩ : ByteArray)) ++ t287) ++ (⟨#[35]⟩ : ByteArray)) ++ t288) ++ (⟨#[64]⟩ : ByteArray)) ++ t289) ++ (⟨#[58]⟩ : ByteArray)) ++ t290).size + 1 ≤ 9223372036854775807 then ((entaillaw1_Nm.f (wrap64 (a2 + a3))).bind fun t291 => (if (((((((((t286 ++ (⟨#[58]⟩ : ByteArray)) ++ t287) ++ (⟨#[35]⟩ : ByteArray)) ++ t288) ++ (⟨#[64]⟩ : ByteArray)) ++ t289) ++ (⟨#[58]⟩ : ByteArray)) ++ t290) ++ (⟨#[35]⟩ : ByteArray)).size + t291.size ≤ 9223372036854775807 then (if t285.toList = ((((((((((t286 ++ (⟨#[58]⟩ : ByteArray)) ++ t287) ++ (⟨#[35]⟩ : ByteArray)) ++ t288) ++ (⟨#[64]⟩ : ByteArray)) ++ t289) ++ (⟨#[58]⟩ : ByteArray)) ++ t290) ++ (⟨#[35]⟩ : ByteArray)) ++ t291).toList then ((tupl_Text.f kj11 x276000_11 x276001_11 x276002_11 x276003_11 x276004_11 x276005_11).bind fun t292 => ((tupl_Text.f kj11 t268 t269 t270 t271 t272 t273).bind fun t293 => (if t292.toList = t293.toList then (none) else (if t283 = true then (if ((t277.toList == x276000_11.toList && (t278.toList == x276001_11.toList)) && (t279.toList == x276002_11.toList && ((t280.toList == x276003_11.toList && (t281.toList == x276004_11.toList && (t282.toList == x276005_11.toList)))))) = true then ((tupl_Less.f kj11 t268 t269 t270 t271 t272 t273 x276000_11 x276001_11 x276002_11 x276003_11 x276004_11 x276005_11).bind fun t294 => ((tupl_Less.f kj11 x276000_11 x276001_11 x276002_11 x276003_11 x276004_11 x276005_11 t268 t269 t270 t271 t272 t273).bind fun t295 => (if (t294 != t295) = true then ((entaillaw2_awake.f kj11).bind fun t296 => (some t296)) else (none)))) else (none)) else (none))))) else (none)) else (none))) else (none)) else (none)) = some r := H
                    have A60 := Aside0.mk A600
                    clear A600
                    by_cases c61 : (((((((t286 ++ (⟨#[58]⟩ : ByteArray)) ++ t287) ++ (⟨#[35]⟩ : ByteArray)) ++ t288) ++ (⟨#[64]⟩ : ByteArray)) ++ t289) ++ (⟨#[58]⟩ : ByteArray)).size + t290.size ≤ 9223372036854775807
                    · rw [if_pos c61] at H
                      have c61e := c61
                      (try simp only [ByteArray.size_append, ByteArray.size_extract, Nat.min_self, show (⟨#[35]⟩ : ByteArray).size = 1 from rfl, show (⟨#[58]⟩ : ByteArray).size = 1 from rfl, show (⟨#[64]⟩ : ByteArray).size = 1 from rfl] at c61e)
                      have c61e0 := eq_true c61e
                      have c61e1 := decide_eq_true c61e
                      (try have c61e2 := eq_false (Nat.not_lt.2 c61e))
                      clear c61e
                      have c61b0 := eq_true c61
                      have c61b1 : decide ((((((((t286 ++ (⟨#[58]⟩ : ByteArray)) ++ t287) ++ (⟨#[35]⟩ : ByteArray)) ++ t288) ++ (⟨#[64]⟩ : ByteArray)) ++ t289) ++ (⟨#[58]⟩ : ByteArray)).size + t290.size ≤ 9223372036854775807) = true := decide_eq_true c61
                      try have c61b2 : (9223372036854775807 < (((((((t286 ++ (⟨#[58]⟩ : ByteArray)) ++ t287) ++ (⟨#[35]⟩ : ByteArray)) ++ t288) ++ (⟨#[64]⟩ : ByteArray)) ++ t289) ++ (⟨#[58]⟩ : ByteArray)).size + t290.size) = False := eq_false (Nat.not_lt.2 c61)
                      by_cases c62 : ((((((((t286 ++ (⟨#[58]⟩ : ByteArray)) ++ t287) ++ (⟨#[35]⟩ : ByteArray)) ++ t288) ++ (⟨#[64]⟩ : ByteArray)) ++ t289) ++ (⟨#[58]⟩ : ByteArray)) ++ t290).size + 1 ≤ 9223372036854775807
                      · rw [if_pos c62] at H
                        have c62e := c62
                        (try simp only [ByteArray.size_append, ByteArray.size_extract, Nat.min_self, show (⟨#[35]⟩ : ByteArray).size = 1 from rfl, show (⟨#[58]⟩ : ByteArray).size = 1 from rfl, show (⟨#[64]⟩ : ByteArray).size = 1 from rfl] at c62e)
                        have c62e0 := eq_true c62e
                        have c62e1 := decide_eq_true c62e
                        (try have c62e2 := eq_false (Nat.not_lt.2 c62e))
                        clear c62e
                        have c62b0 := eq_true c62
                        have c62b1 : decide (((((((((t286 ++ (⟨#[58]⟩ : ByteArray)) ++ t287) ++ (⟨#[35]⟩ : ByteArray)) ++ t288) ++ (⟨#[64]⟩ : ByteArray)) ++ t289) ++ (⟨#[58]⟩ : ByteArray)) ++ t290).size + 1 ≤ 9223372036854775807) = true := decide_eq_true c62
                        try have c62b2 : (9223372036854775807 < ((((((((t286 ++ (⟨#[58]⟩ : ByteArray)) ++ t287) ++ (⟨#[35]⟩ : ByteArray)) ++ t288) ++ (⟨#[64]⟩ : ByteArray)) ++ t289) ++ (⟨#[58]⟩ : ByteArray)) ++ t290).size + 1) = False := eq_false (Nat.not_lt.2 c62)
                        replace H := Option.bind_eq_some_iff.mp H
                        obtain ⟨t291, A630, H⟩ := H
                        replace H : (if (((((((((t286 ++ (⟨#[58]⟩ : ByteArray)) ++ t287) ++ (⟨#[35]⟩ : ByteArray)) ++ t288) ++ (⟨#[64]⟩ : ByteArray)) ++ t289) ++ (⟨#[58]⟩ : ByteArray)) ++ t290) ++ (⟨#[35]⟩ : ByteArray)).size + t291.size ≤ 9223372036854775807 then (if t285.toList = ((((((((((t286 ++ (⟨#[58]⟩ : ByteArray)) ++ t287) ++ (⟨#[35]⟩ : ByteArray)) ++ t288) ++ (⟨#[64]⟩ : ByteArray)) ++ t289) ++ (⟨#[58]⟩ : ByteArray)) ++ t290) ++ (⟨#[35]⟩ : ByteArray)) ++ t291).toList then ((tupl_Text.f kj11 x276000_11 x276001_11 x276002_11 x276003_11 x276004_11 x276005_11).bind fun t292 => ((tupl_Text.f kj11 t268 t269 t270 t271 t272 t273).bind fun t293 => (if t292.toList = t293.toList then (none) else (if t283 = true then (if ((t277.toList == x276000_11.toList && (t278.toList == x276001_11.toList)) && (t279.toList == x276002_11.toList && ((t280.toList == x276003_11.toList && (t281.toList == x276004_11.toList && (t282.toList == x276005_11.toList)))))) = true then ((tupl_Less.f kj11 t268 t269 t270 t271 t272 t273 x276000_11 x276001_11 x276002_11 x276003_11 x276004_11 x276005_11).bind fun t294 => ((tupl_Less.f kj11 x276000_11 x276001_11 x276002_11 x276003_11 x276004_11 x276005_11 t268 t269 t270 t271 t272 t273).bind fun t295 => (if (t294 != t295) = true then ((entaillaw2_awake.f kj11).bind fun t296 => (some t296)) else (none)))) else (none)) else (none))))) else (none)) else (none)) = some r := H
                        have A63 := Aside0.mk A630
                        clear A630
                        by_cases c64 : (((((((((t286 ++ (⟨#[58]⟩ : ByteArray)) ++ t287) ++ (⟨#[35]⟩ : ByteArray)) ++ t288) ++ (⟨#[64]⟩ : ByteArray)) ++ t289) ++ (⟨#[58]⟩ : ByteArray)) ++ t290) ++ (⟨#[35]⟩ : ByteArray)).size + t291.size ≤ 9223372036854775807
                        · rw [if_pos c64] at H
                          have c64e := c64
                          (try simp only [ByteArray.size_append, ByteArray.size_extract, Nat.min_self, show (⟨#[35]⟩ : ByteArray).size = 1 from rfl, show (⟨#[58]⟩ : ByteArray).size = 1 from rfl, show (⟨#[64]⟩ : ByteArray).size = 1 from rfl] at c64e)
                          have c64e0 := eq_true c64e
                          have c64e1 := decide_eq_true c64e
                          (try have c64e2 := eq_false (Nat.not_lt.2 c64e))
                          clear c64e
                          have c64b0 := eq_true c64
                          have c64b1 : decide ((((((((((t286 ++ (⟨#[58]⟩ : ByteArray)) ++ t287) ++ (⟨#[35]⟩ : ByteArray)) ++ t288) ++ (⟨#[64]⟩ : ByteArray)) ++ t289) ++ (⟨#[58]⟩ : ByteArray)) ++ t290) ++ (⟨#[35]⟩ : ByteArray)).size + t291.size ≤ 9223372036854775807) = true := decide_eq_true c64
                          try have c64b2 : (9223372036854775807 < (((((((((t286 ++ (⟨#[58]⟩ : ByteArray)) ++ t287) ++ (⟨#[35]⟩ : ByteArray)) ++ t288) ++ (⟨#[64]⟩ : ByteArray)) ++ t289) ++ (⟨#[58]⟩ : ByteArray)) ++ t290) ++ (⟨#[35]⟩ : ByteArray)).size + t291.size) = False := eq_false (Nat.not_lt.2 c64)
                          by_cases c65 : t285.toList = ((((((((((t286 ++ (⟨#[58]⟩ : ByteArray)) ++ t287) ++ (⟨#[35]⟩ : ByteArray)) ++ t288) ++ (⟨#[64]⟩ : ByteArray)) ++ t289) ++ (⟨#[58]⟩ : ByteArray)) ++ t290) ++ (⟨#[35]⟩ : ByteArray)) ++ t291).toList
                          · rw [if_pos c65] at H
                            have c65b0 : (t285.toList == ((((((((((t286 ++ (⟨#[58]⟩ : ByteArray)) ++ t287) ++ (⟨#[35]⟩ : ByteArray)) ++ t288) ++ (⟨#[64]⟩ : ByteArray)) ++ t289) ++ (⟨#[58]⟩ : ByteArray)) ++ t290) ++ (⟨#[35]⟩ : ByteArray)) ++ t291).toList) = true := beq_iff_eq.mpr c65
                            have c65b1 : (t285.toList != ((((((((((t286 ++ (⟨#[58]⟩ : ByteArray)) ++ t287) ++ (⟨#[35]⟩ : ByteArray)) ++ t288) ++ (⟨#[64]⟩ : ByteArray)) ++ t289) ++ (⟨#[58]⟩ : ByteArray)) ++ t290) ++ (⟨#[35]⟩ : ByteArray)) ++ t291).toList) = false := bne_eq_false_iff_eq.mpr c65
                            clear c65
                            replace H := Option.bind_eq_some_iff.mp H
                            obtain ⟨t292, A660, H⟩ := H
                            replace H : ((tupl_Text.f kj11 t268 t269 t270 t271 t272 t273).bind fun t293 => (if t292.toList = t293.toList then (none) else (if t283 = true then (if ((t277.toList == x276000_11.toList && (t278.toList == x276001_11.toList)) && (t279.toList == x276002_11.toList && ((t280.toList == x276003_11.toList && (t281.toList == x276004_11.toList && (t282.toList == x276005_11.toList)))))) = true then ((tupl_Less.f kj11 t268 t269 t270 t271 t272 t273 x276000_11 x276001_11 x276002_11 x276003_11 x276004_11 x276005_11).bind fun t294 => ((tupl_Less.f kj11 x276000_11 x276001_11 x276002_11 x276003_11 x276004_11 x276005_11 t268 t269 t270 t271 t272 t273).bind fun t295 => (if (t294 != t295) = true then ((entaillaw2_awake.f kj11).bind fun t296 => (some t296)) else (none)))) else (none)) else (none)))) = some r := H
                            have A66 := Aside0.mk A660
                            clear A660
                            replace H := Option.bind_eq_some_iff.mp H
                            obtain ⟨t293, A670, H⟩ := H
                            replace H : (if t292.toList = t293.toList then (none) else (if t283 = true then (if ((t277.toList == x276000_11.toList && (t278.toList == x276001_11.toList)) && (t279.toList == x276002_11.toList && ((t280.toList == x276003_11.toList && (t281.toList == x276004_11.toList && (t282.toList == x276005_11.toList)))))) = true then ((tupl_Less.f kj11 t268 t269 t270 t271 t272 t273 x276000_11 x276001_11 x276002_11 x276003_11 x276004_11 x276005_11).bind fun t294 => ((tupl_Less.f kj11 x276000_11 x276001_11 x276002_11 x276003_11 x276004_11 x276005_11 t268 t269 t270 t271 t272 t273).bind fun t295 => (if (t294 != t295) = true then ((entaillaw2_awake.f kj11).bind fun t296 => (some t296)) else (none)))) else (none)) else (none))) = some r := H
                            have A67 := Aside0.mk A670
                            clear A670
                            by_cases c68 : t292.toList = t293.toList
                            · rw [if_pos c68] at H
                              have c68b0 : (t292.toList == t293.toList) = true := beq_iff_eq.mpr c68
                              have c68b1 : (t292.toList != t293.toList) = false := bne_eq_false_iff_eq.mpr c68
                              clear c68
                              exact absurd H (by simp)
                            · rw [if_neg c68] at H
                              have c68b0 : (t292.toList == t293.toList) = false := beq_eq_false_iff_ne.mpr c68
                              have c68b1 : (t292.toList != t293.toList) = true := bne_iff_ne.mpr c68
                              by_cases c69 : t283 = true
                              · subst c69
                                have H1 : (if ((t277.toList == x276000_11.toList && (t278.toList == x276001_11.toList)) && (t279.toList == x276002_11.toList && ((t280.toList == x276003_11.toList && (t281.toList == x276004_11.toList && (t282.toList == x276005_11.toList)))))) = true then ((tupl_Less.f kj11 t268 t269 t270 t271 t272 t273 x276000_11 x276001_11 x276002_11 x276003_11 x276004_11 x276005_11).bind fun t294 => ((tupl_Less.f kj11 x276000_11 x276001_11 x276002_11 x276003_11 x276004_11 x276005_11 t268 t269 t270 t271 t272 t273).bind fun t295 => (if (t294 != t295) = true then ((entaillaw2_awake.f kj11).bind fun t296 => (some t296)) else (none)))) else (none)) = some r := by rw [if_pos rfl] at H; exact H
                                clear H
                                have H := H1
                                clear H1
                                by_cases c70 : ((t277.toList == x276000_11.toList && (t278.toList == x276001_11.toList)) && (t279.toList == x276002_11.toList && ((t280.toList == x276003_11.toList && (t281.toList == x276004_11.toList && (t282.toList == x276005_11.toList)))))) = true
                                · rw [if_pos c70] at H
                                  have c70b0 : ((t277.toList == x276000_11.toList && (t278.toList == x276001_11.toList)) && (t279.toList == x276002_11.toList && ((t280.toList == x276003_11.toList && (t281.toList == x276004_11.toList && (t282.toList == x276005_11.toList)))))) = true := c70
                                  clear c70
                                  replace H := Option.bind_eq_some_iff.mp H
                                  obtain ⟨t294, A710, H⟩ := H
                                  replace H : ((tupl_Less.f kj11 x276000_11 x276001_11 x276002_11 x276003_11 x276004_11 x276005_11 t268 t269 t270 t271 t272 t273).bind fun t295 => (if (t294 != t295) = true then ((entaillaw2_awake.f kj11).bind fun t296 => (some t296)) else (none))) = some r := H
                                  have A71 := Aside0.mk A710
                                  clear A710
                                  replace H := Option.bind_eq_some_iff.mp H
                                  obtain ⟨t295, A720, H⟩ := H
                                  replace H : (if (t294 != t295) = true then ((entaillaw2_awake.f kj11).bind fun t296 => (some t296)) else (none)) = some r := H
                                  have A72 := Aside0.mk A720
                                  clear A720
                                  by_cases c73 : (t294 != t295) = true
                                  · rw [if_pos c73] at H
                                    have c73b0 : (t294 != t295) = true := c73
                                    (try (have c73b1 : decide (t294 = t295) = false := by simpa using c73))
                                    (try (have c73b2 : (t294 == t295) = false := by simpa using c73))
                                    (try (have c73b3 : ¬ (t294 = t295) := by simpa using c73))
                                    clear c73
                                    replace H := Option.bind_eq_some_iff.mp H
                                    obtain ⟨t296, A740, H⟩ := H
                                    replace H : (some t296) = some r := H
                                    have A74 := Aside0.mk A740
                                    clear A740
                                    obtain rfl := Option.some.inj H
                                    have hnb75 := NB275_274.out
                                    have hnc75 := NB274_275.out
                                    have hcz76_0 : wc.cell? ⟨gb275, 0, none⟩ = some (.string x276000_11) := (blk_cell BK275.out 0).trans rfl
                                    have hcz76_1 : wc.cell? ⟨gb275, 1, none⟩ = some (.string x276001_11) := (blk_cell BK275.out 1).trans rfl
                                    have hcz76_2 : wc.cell? ⟨gb275, 2, none⟩ = some (.string x276002_11) := (blk_cell BK275.out 2).trans rfl
                                    have hcz76_3 : wc.cell? ⟨gb275, 3, none⟩ = some (.string x276003_11) := (blk_cell BK275.out 3).trans rfl
                                    have hcz76_4 : wc.cell? ⟨gb275, 4, none⟩ = some (.string x276004_11) := (blk_cell BK275.out 4).trans rfl
                                    have hcz76_5 : wc.cell? ⟨gb275, 5, none⟩ = some (.string x276005_11) := (blk_cell BK275.out 5).trans rfl
                                    have hfz76_0 := blk_frozen BK275.out 0
                                    have hfz76_1 := blk_frozen BK275.out 1
                                    have hfz76_2 := blk_frozen BK275.out 2
                                    have hfz76_3 := blk_frozen BK275.out 3
                                    have hfz76_4 := blk_frozen BK275.out 4
                                    have hfz76_5 := blk_frozen BK275.out 5
                                    try go_wp2_with (first | ((with_reducible refine gate_callee (f := 13) rfl ?_); refine goesL_ (some 87) rfl rfl Try.func13 (by kernel_rfl) rfl #[.agg #[.string x276000_11, .string x276001_11, .string x276002_11, .string x276003_11, .string x276004_11, .string x276005_11]] rfl (by (try simp only [List.map_toArray, List.map_cons, List.map_nil]); first | done | rfl | (simp only [List.length_drop, List.length_take]; rfl)) ?_; (with_reducible refine (tupl_Text.calls kj11 x276000_11 x276001_11 x276002_11 x276003_11 x276004_11 x276005_11 t276 _ A46.out).mono ?_); rintro e w77 ⟨rfl, hb⟩; refine ⟨_, rfl, ?_⟩; have n0_ := Aside0.mk (blk_below (g := gb274) (o := .cells #[.string t268, .string t269, .string t270, .string t271, .string t272, .string t273] 29 (0, 0)) (by (with_reducible repeat (first | refine blk_drewN ?_ _ | refine blk_drew ?_ | refine blk_alloc ?_ _)); exact BK274.out) hb); have n1_ := Aside0.mk (blk_below (g := gb275) (o := .cells #[.string x276000_11, .string x276001_11, .string x276002_11, .string x276003_11, .string x276004_11, .string x276005_11] 29 (0, 0)) (by (with_reducible repeat (first | refine blk_drewN ?_ _ | refine blk_drew ?_ | refine blk_alloc ?_ _)); exact BK275.out) hb); have n2_ := Aside0.mk (below_step (by repeat (first | (with_reducible first | exact HB.out | apply below_alloc | apply pw_below_drewN | apply below_drew1 | refine below_set ?_ GE274.out | refine below_set ?_ GE275.out) | exact HB.out)) hb); clear BK274; clear BK275; clear HB; have BK274 := n0_; have BK275 := n1_; have HB := n2_; clear n0_ n1_ n2_; (try clear hb); (try clear hb2); (try clear hk); (try clear hi)) | ((with_reducible refine gate_callee (f := 12) rfl ?_); refine goesL_ (some 88) rfl rfl Try.func12 (by kernel_rfl) rfl #[.string t276] rfl (by (try simp only [List.map_toArray, List.map_cons, List.map_nil]); first | done | rfl | (simp only [List.length_drop, List.length_take]; rfl)) ?_; (with_reducible refine (tupl_Parse.calls kj11 t276 t277 t278 t279 t280 t281 t282 true _ A47.out).mono ?_); rintro e w78 ⟨rfl, hb⟩; refine ⟨_, rfl, ?_⟩; have n0_ := Aside0.mk (blk_below (g := gb274) (o := .cells #[.string t268, .string t269, .string t270, .string t271, .string t272, .string t273] 29 (0, 0)) (by (with_reducible repeat (first | refine blk_drewN ?_ _ | refine blk_drew ?_ | refine blk_alloc ?_ _)); exact BK274.out) hb); have n1_ := Aside0.mk (blk_below (g := gb275) (o := .cells #[.string x276000_11, .string x276001_11, .string x276002_11, .string x276003_11, .string x276004_11, .string x276005_11] 29 (0, 0)) (by (with_reducible repeat (first | refine blk_drewN ?_ _ | refine blk_drew ?_ | refine blk_alloc ?_ _)); exact BK275.out) hb); have n2_ := Aside0.mk (below_step (by repeat (first | (with_reducible first | exact HB.out | apply below_alloc | apply pw_below_drewN | apply below_drew1 | refine below_set ?_ GE274.out | refine below_set ?_ GE275.out) | exact HB.out)) hb); clear BK274; clear BK275; clear HB; have BK274 := n0_; have BK275 := n1_; have HB := n2_; clear n0_ n1_ n2_; (try clear hb); (try clear hb2); (try clear hk); (try clear hi)) | ((with_reducible refine gate_dst (N := 14) rfl ?_); refine box_event ?hg (N := 14) ?hd (cs := #[.string (⟨#[]⟩ : ByteArray), .string (⟨#[]⟩ : ByteArray), .string (⟨#[]⟩ : ByteArray), .string (⟨#[]⟩ : ByteArray), .string (⟨#[]⟩ : ByteArray), .string (⟨#[]⟩ : ByteArray)]) (t := 29) ?hr ?_; (case hd => rfl); (case hg => rfl); (case hr => first | (go_simp; done) | (go_simp; rfl)); intro gb284 hg w79 hbox hb; have n0_ := Aside0.mk (blk_below (g := gb274) (o := .cells #[.string t268, .string t269, .string t270, .string t271, .string t272, .string t273] 29 (0, 0)) (by (with_reducible repeat (first | refine blk_drewN ?_ _ | refine blk_drew ?_ | refine blk_alloc ?_ _)); exact BK274.out) hb); have n1_ := Aside0.mk (blk_below (g := gb275) (o := .cells #[.string x276000_11, .string x276001_11, .string x276002_11, .string x276003_11, .string x276004_11, .string x276005_11] 29 (0, 0)) (by (with_reducible repeat (first | refine blk_drewN ?_ _ | refine blk_drew ?_ | refine blk_alloc ?_ _)); exact BK275.out) hb); have n2_ := Aside0.mk (below_step (by repeat (first | (with_reducible first | exact HB.out | apply below_alloc | apply pw_below_drewN | apply below_drew1 | refine below_set ?_ GE274.out | refine below_set ?_ GE275.out) | exact HB.out)) hb); have n3_ := Aside0.mk (hbox); have n4_ := Aside0.mk ((by rw [hg]; exact (below_size (by repeat (first | (with_reducible first | exact HB.out | apply below_alloc | apply pw_below_drewN | apply below_drew1 | refine below_set ?_ GE274.out | refine below_set ?_ GE275.out) | exact HB.out))) : w.heap.size ≤ gb284)); have n5_ := Aside0.mk ((by rw [hg]; exact (below_size (by repeat (first | (with_reducible first | exact HB.out | apply below_alloc | apply pw_below_drewN | apply below_drew1 | refine below_set ?_ GE274.out | refine below_set ?_ GE275.out) | exact HB.out))) : w.heap.size ≤ gb284)); have n6_ := Aside0.mk ((by rw [hg]; exact Nat.ne_of_lt (blk_lt (g := gb274) (o := .cells #[.string t268, .string t269, .string t270, .string t271, .string t272, .string t273] 29 (0, 0)) (by (with_reducible repeat (first | refine blk_drewN ?_ _ | refine blk_drew ?_ | refine blk_alloc ?_ _)); exact BK274.out)) : gb274 ≠ gb284)); have n7_ := Aside0.mk ((by rw [hg]; exact Nat.ne_of_gt (blk_lt (g := gb274) (o := .cells #[.string t268, .string t269, .string t270, .string t271, .string t272, .string t273] 29 (0, 0)) (by (with_reducible repeat (first | refine blk_drewN ?_ _ | refine blk_drew ?_ | refine blk_alloc ?_ _)); exact BK274.out)) : gb284 ≠ gb274)); have n8_ := Aside0.mk ((by rw [hg]; exact Nat.ne_of_lt (blk_lt (g := gb275) (o := .cells #[.string x276000_11, .string x276001_11, .string x276002_11, .string x276003_11, .string x276004_11, .string x276005_11] 29 (0, 0)) (by (with_reducible repeat (first | refine blk_drewN ?_ _ | refine blk_drew ?_ | refine blk_alloc ?_ _)); exact BK275.out)) : gb275 ≠ gb284)); have n9_ := Aside0.mk ((by rw [hg]; exact Nat.ne_of_gt (blk_lt (g := gb275) (o := .cells #[.string x276000_11, .string x276001_11, .string x276002_11, .string x276003_11, .string x276004_11, .string x276005_11] 29 (0, 0)) (by (with_reducible repeat (first | refine blk_drewN ?_ _ | refine blk_drew ?_ | refine blk_alloc ?_ _)); exact BK275.out)) : gb284 ≠ gb275)); clear BK274; clear BK275; clear HB; have BK274 := n0_; have BK275 := n1_; have HB := n2_; have BK284 := n3_; have GW284 := n4_; have GE284 := n5_; have NB274_284 := n6_; have NB284_274 := n7_; have NB275_284 := n8_; have NB284_275 := n9_; clear n0_ n1_ n2_ n3_ n4_ n5_ n6_ n7_ n8_ n9_; clear hb hbox hg; have hnb80 := NB284_274.out; have hnc80 := NB274_284.out; have hnb81 := NB284_275.out; have hnc81 := NB275_284.out; have hcz82_0 : w79.cell? ⟨gb284, 0, none⟩ = some (.string (⟨#[]⟩ : ByteArray)) := (blk_cell BK284.out 0).trans rfl; have hcz82_1 : w79.cell? ⟨gb284, 1, none⟩ = some (.string (⟨#[]⟩ : ByteArray)) := (blk_cell BK284.out 1).trans rfl; have hcz82_2 : w79.cell? ⟨gb284, 2, none⟩ = some (.string (⟨#[]⟩ : ByteArray)) := (blk_cell BK284.out 2).trans rfl; have hcz82_3 : w79.cell? ⟨gb284, 3, none⟩ = some (.string (⟨#[]⟩ : ByteArray)) := (blk_cell BK284.out 3).trans rfl; have hcz82_4 : w79.cell? ⟨gb284, 4, none⟩ = some (.string (⟨#[]⟩ : ByteArray)) := (blk_cell BK284.out 4).trans rfl; have hcz82_5 : w79.cell? ⟨gb284, 5, none⟩ = some (.string (⟨#[]⟩ : ByteArray)) := (blk_cell BK284.out 5).trans rfl; have hfz82_0 := blk_frozen BK284.out 0; have hfz82_1 := blk_frozen BK284.out 1; have hfz82_2 := blk_frozen BK284.out 2; have hfz82_3 := blk_frozen BK284.out 3; have hfz82_4 := blk_frozen BK284.out 4; have hfz82_5 := blk_frozen BK284.out 5))
                                    have n0_ : Aside0 (((((((w79.setCell ⟨gb284, 0, none⟩ (.string t277)).setCell ⟨gb284, 1, none⟩ (.string t278)).setCell ⟨gb284, 2, none⟩ (.string t279)).setCell ⟨gb284, 3, none⟩ (.string t280)).setCell ⟨gb284, 4, none⟩ (.string t281)).setCell ⟨gb284, 5, none⟩ (.string t282)).heap[gb274]? = some (.cells #[.string t268, .string t269, .string t270, .string t271, .string t272, .string t273] 29 (0, 0))) := ⟨by (with_reducible repeat (first | refine blk_drewN ?_ _ | refine blk_drew ?_ | refine blk_alloc ?_ _)); refine blk_far ?_ NB274_284.out _; (with_reducible repeat (first | refine blk_drewN ?_ _ | refine blk_drew ?_ | refine blk_alloc ?_ _)); refine blk_far ?_ NB274_284.out _; (with_reducible repeat (first | refine blk_drewN ?_ _ | refine blk_drew ?_ | refine blk_alloc ?_ _)); refine blk_far ?_ NB274_284.out _; (with_reducible repeat (first | refine blk_drewN ?_ _ | refine blk_drew ?_ | refine blk_alloc ?_ _)); refine blk_far ?_ NB274_284.out _; (with_reducible repeat (first | refine blk_drewN ?_ _ | refine blk_drew ?_ | refine blk_alloc ?_ _)); refine blk_far ?_ NB274_284.out _; (with_reducible repeat (first | refine blk_drewN ?_ _ | refine blk_drew ?_ | refine blk_alloc ?_ _)); refine blk_far ?_ NB274_284.out _; (with_reducible repeat (first | refine blk_drewN ?_ _ | refine blk_drew ?_ | refine blk_alloc ?_ _)); exact BK274.out⟩
                                    have n1_ : Aside0 (((((((w79.setCell ⟨gb284, 0, none⟩ (.string t277)).setCell ⟨gb284, 1, none⟩ (.string t278)).setCell ⟨gb284, 2, none⟩ (.string t279)).setCell ⟨gb284, 3, none⟩ (.string t280)).setCell ⟨gb284, 4, none⟩ (.string t281)).setCell ⟨gb284, 5, none⟩ (.string t282)).heap[gb275]? = some (.cells #[.string x276000_11, .string x276001_11, .string x276002_11, .string x276003_11, .string x276004_11, .string x276005_11] 29 (0, 0))) := ⟨by (with_reducible repeat (first | refine blk_drewN ?_ _ | refine blk_drew ?_ | refine blk_alloc ?_ _)); refine blk_far ?_ NB275_284.out _; (with_reducible repeat (first | refine blk_drewN ?_ _ | refine blk_drew ?_ | refine blk_alloc ?_ _)); refine blk_far ?_ NB275_284.out _; (with_reducible repeat (first | refine blk_drewN ?_ _ | refine blk_drew ?_ | refine blk_alloc ?_ _)); refine blk_far ?_ NB275_284.out _; (with_reducible repeat (first | refine blk_drewN ?_ _ | refine blk_drew ?_ | refine blk_alloc ?_ _)); refine blk_far ?_ NB275_284.out _; (with_reducible repeat (first | refine blk_drewN ?_ _ | refine blk_drew ?_ | refine blk_alloc ?_ _)); refine blk_far ?_ NB275_284.out _; (with_reducible repeat (first | refine blk_drewN ?_ _ | refine blk_drew ?_ | refine blk_alloc ?_ _)); refine blk_far ?_ NB275_284.out _; (with_reducible repeat (first | refine blk_drewN ?_ _ | refine blk_drew ?_ | refine blk_alloc ?_ _)); exact BK275.out⟩
                                    have n2_ : Aside0 (((((((w79.setCell ⟨gb284, 0, none⟩ (.string t277)).setCell ⟨gb284, 1, none⟩ (.string t278)).setCell ⟨gb284, 2, none⟩ (.string t279)).setCell ⟨gb284, 3, none⟩ (.string t280)).setCell ⟨gb284, 4, none⟩ (.string t281)).setCell ⟨gb284, 5, none⟩ (.string t282)).heap[gb284]? = some (.cells #[.string t277, .string t278, .string t279, .string t280, .string t281, .string t282] 29 (0, 0))) := ⟨by (with_reducible repeat (first | refine blk_drewN ?_ _ | refine blk_drew ?_ | refine blk_alloc ?_ _)); refine blk_put (cs := #[.string t277, .string t278, .string t279, .string t280, .string t281, .string (⟨#[]⟩ : ByteArray)]) ?_ 5 _ rfl; (with_reducible repeat (first | refine blk_drewN ?_ _ | refine blk_drew ?_ | refine blk_alloc ?_ _)); refine blk_put (cs := #[.string t277, .string t278, .string t279, .string t280, .string (⟨#[]⟩ : ByteArray), .string (⟨#[]⟩ : ByteArray)]) ?_ 4 _ rfl; (with_reducible repeat (first | refine blk_drewN ?_ _ | refine blk_drew ?_ | refine blk_alloc ?_ _)); refine blk_put (cs := #[.string t277, .string t278, .string t279, .string (⟨#[]⟩ : ByteArray), .string (⟨#[]⟩ : ByteArray), .string (⟨#[]⟩ : ByteArray)]) ?_ 3 _ rfl; (with_reducible repeat (first | refine blk_drewN ?_ _ | refine blk_drew ?_ | refine blk_alloc ?_ _)); refine blk_put (cs := #[.string t277, .string t278, .string (⟨#[]⟩ : ByteArray), .string (⟨#[]⟩ : ByteArray), .string (⟨#[]⟩ : ByteArray), .string (⟨#[]⟩ : ByteArray)]) ?_ 2 _ rfl; (with_reducible repeat (first | refine blk_drewN ?_ _ | refine blk_drew ?_ | refine blk_alloc ?_ _)); refine blk_put (cs := #[.string t277, .string (⟨#[]⟩ : ByteArray), .string (⟨#[]⟩ : ByteArray), .string (⟨#[]⟩ : ByteArray), .string (⟨#[]⟩ : ByteArray), .string (⟨#[]⟩ : ByteArray)]) ?_ 1 _ rfl; (with_reducible repeat (first | refine blk_drewN ?_ _ | refine blk_drew ?_ | refine blk_alloc ?_ _)); refine blk_put (cs := #[.string (⟨#[]⟩ : ByteArray), .string (⟨#[]⟩ : ByteArray), .string (⟨#[]⟩ : ByteArray), .string (⟨#[]⟩ : ByteArray), .string (⟨#[]⟩ : ByteArray), .string (⟨#[]⟩ : ByteArray)]) ?_ 0 _ rfl; (with_reducible repeat (first | refine blk_drewN ?_ _ | refine blk_drew ?_ | refine blk_alloc ?_ _)); exact BK284.out⟩
                                    have n3_ : Aside0 (Below w.heap.size w ((((((w79.setCell ⟨gb284, 0, none⟩ (.string t277)).setCell ⟨gb284, 1, none⟩ (.string t278)).setCell ⟨gb284, 2, none⟩ (.string t279)).setCell ⟨gb284, 3, none⟩ (.string t280)).setCell ⟨gb284, 4, none⟩ (.string t281)).setCell ⟨gb284, 5, none⟩ (.string t282))) := ⟨by repeat (first | (with_reducible first | exact HB.out | apply below_alloc | apply pw_below_drewN | apply below_drew1 | refine below_set ?_ GE274.out | refine below_set ?_ GE275.out | refine below_set ?_ GE284.out) | exact HB.out)⟩
                                    (try clear BK274)
                                    (try clear BK275)
                                    (try clear BK284)
                                    (try clear HB)
                                    generalize ((((((w79.setCell ⟨gb284, 0, none⟩ (.string t277)).setCell ⟨gb284, 1, none⟩ (.string t278)).setCell ⟨gb284, 2, none⟩ (.string t279)).setCell ⟨gb284, 3, none⟩ (.string t280)).setCell ⟨gb284, 4, none⟩ (.string t281)).setCell ⟨gb284, 5, none⟩ (.string t282)) = w83 at n0_ n1_ n2_ n3_ ⊢
                                    have BK274 := n0_
                                    have BK275 := n1_
                                    have BK284 := n2_
                                    have HB := n3_
                                    clear n0_ n1_ n2_ n3_
                                    have n0_ := Aside0.mk (blk_drew BK274.out)
                                    have n1_ := Aside0.mk (blk_drew BK275.out)
                                    have n2_ := Aside0.mk (blk_drew BK284.out)
                                    have n3_ := Aside0.mk (below_drew1 HB.out)
                                    clear BK274
                                    clear BK275
                                    clear BK284
                                    clear HB
                                    have BK274 := n0_
                                    have BK275 := n1_
                                    have BK284 := n2_
                                    have HB := n3_
                                    clear n0_ n1_ n2_ n3_
                                    refine start_ (n := 63) (S := fun w' => w'.cell? ⟨gb274, 0, none⟩ = some (.string t268) ∧ w'.cell? ⟨gb274, 1, none⟩ = some (.string t269) ∧ w'.cell? ⟨gb274, 2, none⟩ = some (.string t270) ∧ w'.cell? ⟨gb274, 3, none⟩ = some (.string t271) ∧ w'.cell? ⟨gb274, 4, none⟩ = some (.string t272) ∧ w'.cell? ⟨gb274, 5, none⟩ = some (.string t273) ∧ w'.cell? ⟨gb275, 0, none⟩ = some (.string x276000_11) ∧ w'.cell? ⟨gb275, 1, none⟩ = some (.string x276001_11) ∧ w'.cell? ⟨gb275, 2, none⟩ = some (.string x276002_11) ∧ w'.cell? ⟨gb275, 3, none⟩ = some (.string x276003_11) ∧ w'.cell? ⟨gb275, 4, none⟩ = some (.string x276004_11) ∧ w'.cell? ⟨gb275, 5, none⟩ = some (.string x276005_11) ∧ w'.cell? ⟨gb284, 0, none⟩ = some (.string t277) ∧ w'.cell? ⟨gb284, 1, none⟩ = some (.string t278) ∧ w'.cell? ⟨gb284, 2, none⟩ = some (.string t279) ∧ w'.cell? ⟨gb284, 3, none⟩ = some (.string t280) ∧ w'.cell? ⟨gb284, 4, none⟩ = some (.string t281) ∧ w'.cell? ⟨gb284, 5, none⟩ = some (.string t282)) (ds := []) #[false, false, false, false, false, false, false, false, false, false, false, false, false, false, false, false, false, false, false, false, false, false, false, false, false, false, false, false, false, false, false, false, false, false, false, false, false, false, false, false, false, false, false, false, false, false, false, false, false, false, false, false, false, false, false, false, false, false, false, false, false, false, false] (by kernel_rfl) rfl rfl ⟨(blk_cell BK274.out 0).trans rfl, (blk_cell BK274.out 1).trans rfl, (blk_cell BK274.out 2).trans rfl, (blk_cell BK274.out 3).trans rfl, (blk_cell BK274.out 4).trans rfl, (blk_cell BK274.out 5).trans rfl, (blk_cell BK275.out 0).trans rfl, (blk_cell BK275.out 1).trans rfl, (blk_cell BK275.out 2).trans rfl, (blk_cell BK275.out 3).trans rfl, (blk_cell BK275.out 4).trans rfl, (blk_cell BK275.out 5).trans rfl, (blk_cell BK284.out 0).trans rfl, (blk_cell BK284.out 1).trans rfl, (blk_cell BK284.out 2).trans rfl, (blk_cell BK284.out 3).trans rfl, (blk_cell BK284.out 4).trans rfl, (blk_cell BK284.out 5).trans rfl⟩ (fun hHeld => ?_); refine with_tabW entaillaw2_TuplParts.tab17 entaillaw2_TuplParts.bits17 (fun HT_ HW_ => ?_)
                                    generalize w83.drew = w84 at BK274 BK275 BK284 HB hHeld ⊢
                                    refine pure_ (i := 2) (N := some 93) (v := ?_) (a' := ?_) #[false, false, true, false, false, false, false, false, false, false, false, false, false, false, false, false, false, false, false, false, false, false, false, false, false, false, false, false, false, false, false, false, false, false, false, false, false, false, false, false, false, false, false, false, false, false, false, false, false, false, false, false, false, false, false, false, false, false, false, false, false, false, false] rfl rfl (any_of HT_.out (by kernel_rfl)) (fun _ _ _ h => h) (Or.inl ⟨by rfl, ?_⟩) ?_ ?_
                                    rotate_left
                                    · intro w'
                                      go_simp
                                      with_reducible rfl
                                    rotate_left
                                    · simp only [Act.put, List.setIfInBounds_toArray, List.set_cons_zero, List.set_cons_succ, i64_w, i32_w]
                                      rfl
                                    refine pure_ (i := 3) (N := some 94) (v := ?_) (a' := ?_) #[false, false, true, true, false, false, false, false, false, false, false, false, false, false, false, false, false, false, false, false, false, false, false, false, false, false, false, false, false, false, false, false, false, false, false, false, false, false, false, false, false, false, false, false, false, false, false, false, false, false, false, false, false, false, false, false, false, false, false, false, false, false, false] rfl rfl (any_of HT_.out (by kernel_rfl)) (fun _ _ _ h => h) (Or.inl ⟨by rfl, ?_⟩) ?_ ?_
                                    rotate_left
                                    · intro w'
                                      go_simp
                                      with_reducible rfl
                                    rotate_left
                                    · simp only [Act.put, List.setIfInBounds_toArray, List.set_cons_zero, List.set_cons_succ, i64_w, i32_w]
                                      rfl
                                    refine pure_ (i := 6) (N := some 97) (v := ?_) (a' := ?_) #[false, false, true, true, false, false, true, false, false, false, false, false, false, false, false, false, false, false, false, false, false, false, false, false, false, false, false, false, false, false, false, false, false, false, false, false, false, false, false, false, false, false, false, false, false, false, false, false, false, false, false, false, false, false, false, false, false, false, false, false, false, false, false] rfl rfl (any_of HT_.out (by kernel_rfl)) (fun _ _ _ h => h) (Or.inl ⟨by rfl, ?_⟩) ?_ ?_
                                    rotate_left
                                    · intro w'
                                      go_simp
                                      with_reducible rfl
                                    rotate_left
                                    · simp only [Act.put, List.setIfInBounds_toArray, List.set_cons_zero, List.set_cons_succ, i64_w, i32_w]
                                      rfl
                                    refine pure_ (i := 7) (N := some 98) (v := ?_) (a' := ?_) #[false, false, true, true, false, false, true, true, false, false, false, false, false, false, false, false, false, false, false, false, false, false, false, false, false, false, false, false, false, false, false, false, false, false, false, false, false, false, false, false, false, false, false, false, false, false, false, false, false, false, false, false, false, false, false, false, false, false, false, false, false, false, false] rfl rfl (any_of HT_.out (by kernel_rfl)) (fun _ _ _ h => h) (Or.inl ⟨by rfl, ?_⟩) ?_ ?_
                                    rotate_left
                                    · intro w'
                                      go_simp
                                      with_reducible rfl
                                    rotate_left
                                    · simp only [Act.put, List.setIfInBounds_toArray, List.set_cons_zero, List.set_cons_succ, i64_w, i32_w]
                                      rfl
                                    refine pure_ (i := 11) (N := some 102) (v := ?_) (a' := ?_) #[false, false, true, true, false, false, true, true, false, false, false, true, false, false, false, false, false, false, false, false, false, false, false, false, false, false, false, false, false, false, false, false, false, false, false, false, false, false, false, false, false, false, false, false, false, false, false, false, false, false, false, false, false, false, false, false, false, false, false, false, false, false, false] rfl rfl (any_of HT_.out (by kernel_rfl)) (fun _ _ _ h => h) (Or.inl ⟨by rfl, ?_⟩) ?_ ?_
                                    rotate_left
                                    · intro w'
                                      go_simp
                                      with_reducible rfl
                                    rotate_left
                                    · simp only [Act.put, List.setIfInBounds_toArray, List.set_cons_zero, List.set_cons_succ, i64_w, i32_w]
                                      rfl
                                    refine pure_ (i := 12) (N := some 103) (v := ?_) (a' := ?_) #[false, false, true, true, false, false, true, true, false, false, false, true, true, false, false, false, false, false, false, false, false, false, false, false, false, false, false, false, false, false, false, false, false, false, false, false, false, false, false, false, false, false, false, false, false, false, false, false, false, false, false, false, false, false, false, false, false, false, false, false, false, false, false] rfl rfl (any_of HT_.out (by kernel_rfl)) (fun _ _ _ h => h) (Or.inl ⟨by rfl, ?_⟩) ?_ ?_
                                    rotate_left
                                    · intro w'
                                      go_simp
                                      with_reducible rfl
                                    rotate_left
                                    · simp only [Act.put, List.setIfInBounds_toArray, List.set_cons_zero, List.set_cons_succ, i64_w, i32_w]
                                      rfl
                                    refine pure_ (i := 16) (N := some 107) (v := ?_) (a' := ?_) #[false, false, true, true, false, false, true, true, false, false, false, true, true, false, false, false, true, false, false, false, false, false, false, false, false, false, false, false, false, false, false, false, false, false, false, false, false, false, false, false, false, false, false, false, false, false, false, false, false, false, false, false, false, false, false, false, false, false, false, false, false, false, false] rfl rfl (any_of HT_.out (by kernel_rfl)) (fun _ _ _ h => h) (Or.inl ⟨by rfl, ?_⟩) ?_ ?_
                                    rotate_left
                                    · intro w'
                                      go_simp
                                      with_reducible rfl
                                    rotate_left
                                    · simp only [Act.put, List.setIfInBounds_toArray, List.set_cons_zero, List.set_cons_succ, i64_w, i32_w]
                                      rfl
                                    refine pure_ (i := 17) (N := some 108) (v := ?_) (a' := ?_) #[false, false, true, true, false, false, true, true, false, false, false, true, true, false, false, false, true, true, false, false, false, false, false, false, false, false, false, false, false, false, false, false, false, false, false, false, false, false, false, false, false, false, false, false, false, false, false, false, false, false, false, false, false, false, false, false, false, false, false, false, false, false, false] rfl rfl (any_of HT_.out (by kernel_rfl)) (fun _ _ _ h => h) (Or.inl ⟨by rfl, ?_⟩) ?_ ?_
                                    rotate_left
                                    · intro w'
                                      go_simp
                                      with_reducible rfl
                                    rotate_left
                                    · simp only [Act.put, List.setIfInBounds_toArray, List.set_cons_zero, List.set_cons_succ, i64_w, i32_w]
                                      rfl
                                    refine pure_ (i := 21) (N := some 112) (v := ?_) (a' := ?_) #[false, false, true, true, false, false, true, true, false, false, false, true, true, false, false, false, true, true, false, false, false, true, false, false, false, false, false, false, false, false, false, false, false, false, false, false, false, false, false, false, false, false, false, false, false, false, false, false, false, false, false, false, false, false, false, false, false, false, false, false, false, false, false] rfl rfl (any_of HT_.out (by kernel_rfl)) (fun _ _ _ h => h) (Or.inl ⟨by rfl, ?_⟩) ?_ ?_
                                    rotate_left
                                    · intro w'
                                      go_simp
                                      with_reducible rfl
                                    rotate_left
                                    · simp only [Act.put, List.setIfInBounds_toArray, List.set_cons_zero, List.set_cons_succ, i64_w, i32_w]
                                      rfl
                                    refine pure_ (i := 22) (N := some 113) (v := ?_) (a' := ?_) #[false, false, true, true, false, false, true, true, false, false, false, true, true, false, false, false, true, true, false, false, false, true, true, false, false, false, false, false, false, false, false, false, false, false, false, false, false, false, false, false, false, false, false, false, false, false, false, false, false, false, false, false, false, false, false, false, false, false, false, false, false, false, false] rfl rfl (any_of HT_.out (by kernel_rfl)) (fun _ _ _ h => h) (Or.inl ⟨by rfl, ?_⟩) ?_ ?_
                                    rotate_left
                                    · intro w'
                                      go_simp
                                      with_reducible rfl
                                    rotate_left
                                    · simp only [Act.put, List.setIfInBounds_toArray, List.set_cons_zero, List.set_cons_succ, i64_w, i32_w]
                                      rfl
                                    refine pure_ (i := 23) (N := some 114) (v := ?_) (a' := ?_) #[false, false, true, true, false, false, true, true, false, false, false, true, true, false, false, false, true, true, false, false, false, true, true, true, false, false, false, false, false, false, false, false, false, false, false, false, false, false, false, false, false, false, false, false, false, false, false, false, false, false, false, false, false, false, false, false, false, false, false, false, false, false, false] rfl rfl (any_of HT_.out (by kernel_rfl)) (fun _ _ _ h => h) (Or.inl ⟨by rfl, ?_⟩) ?_ ?_
                                    rotate_left
                                    · intro w'
                                      go_simp
                                      with_reducible rfl
                                    rotate_left
                                    · simp only [Act.put, List.setIfInBounds_toArray, List.set_cons_zero, List.set_cons_succ, i64_w, i32_w]
                                      rfl
                                    refine pure_ (i := 24) (N := some 115) (v := ?_) (a' := ?_) #[false, false, true, true, false, false, true, true, false, false, false, true, true, false, false, false, true, true, false, false, false, true, true, true, true, false, false, false, false, false, false, false, false, false, false, false, false, false, false, false, false, false, false, false, false, false, false, false, false, false, false, false, false, false, false, false, false, false, false, false, false, false, false] rfl rfl (any_of HT_.out (by kernel_rfl)) (fun _ _ _ h => h) (Or.inl ⟨by rfl, ?_⟩) ?_ ?_
                                    rotate_left
                                    · intro w'
                                      go_simp
                                      with_reducible rfl
                                    rotate_left
                                    · simp only [Act.put, List.setIfInBounds_toArray, List.set_cons_zero, List.set_cons_succ, i64_w, i32_w]
                                      rfl
                                    refine pure_ (i := 28) (N := some 119) (v := ?_) (a' := ?_) #[false, false, true, true, false, false, true, true, false, false, false, true, true, false, false, false, true, true, false, false, false, true, true, true, true, false, false, false, true, false, false, false, false, false, false, false, false, false, false, false, false, false, false, false, false, false, false, false, false, false, false, false, false, false, false, false, false, false, false, false, false, false, false] rfl rfl (any_of HT_.out (by kernel_rfl)) (fun _ _ _ h => h) (Or.inl ⟨by rfl, ?_⟩) ?_ ?_
                                    rotate_left
                                    · intro w'
                                      go_simp
                                      with_reducible rfl
                                    rotate_left
                                    · simp only [Act.put, List.setIfInBounds_toArray, List.set_cons_zero, List.set_cons_succ, i64_w, i32_w]
                                      rfl
                                    refine pure_ (i := 29) (N := some 120) (v := ?_) (a' := ?_) #[false, false, true, true, false, false, true, true, false, false, false, true, true, false, false, false, true, true, false, false, false, true, true, true, true, false, false, false, true, true, false, false, false, false, false, false, false, false, false, false, false, false, false, false, false, false, false, false, false, false, false, false, false, false, false, false, false, false, false, false, false, false, false] rfl rfl (any_of HT_.out (by kernel_rfl)) (fun _ _ _ h => h) (Or.inl ⟨by rfl, ?_⟩) ?_ ?_
                                    rotate_left
                                    · intro w'
                                      go_simp
                                      with_reducible rfl
                                    rotate_left
                                    · simp only [Act.put, List.setIfInBounds_toArray, List.set_cons_zero, List.set_cons_succ, i64_w, i32_w]
                                      rfl
                                    refine pure_ (i := 30) (N := some 121) (v := ?_) (a' := ?_) #[false, false, true, true, false, false, true, true, false, false, false, true, true, false, false, false, true, true, false, false, false, true, true, true, true, false, false, false, true, true, true, false, false, false, false, false, false, false, false, false, false, false, false, false, false, false, false, false, false, false, false, false, false, false, false, false, false, false, false, false, false, false, false] rfl rfl (any_of HT_.out (by kernel_rfl)) (fun _ _ _ h => h) (Or.inl ⟨by rfl, ?_⟩) ?_ ?_
                                    rotate_left
                                    · intro w'
                                      go_simp
                                      with_reducible rfl
                                    rotate_left
                                    · simp only [Act.put, List.setIfInBounds_toArray, List.set_cons_zero, List.set_cons_succ, i64_w, i32_w]
                                      rfl
                                    refine pure_ (i := 31) (N := some 122) (v := ?_) (a' := ?_) #[false, false, true, true, false, false, true, true, false, false, false, true, true, false, false, false, true, true, false, false, false, true, true, true, true, false, false, false, true, true, true, true, false, false, false, false, false, false, false, false, false, false, false, false, false, false, false, false, false, false, false, false, false, false, false, false, false, false, false, false, false, false, false] rfl rfl (any_of HT_.out (by kernel_rfl)) (fun _ _ _ h => h) (Or.inl ⟨by rfl, ?_⟩) ?_ ?_
                                    rotate_left
                                    · intro w'
                                      go_simp
                                      with_reducible rfl
                                    rotate_left
                                    · simp only [Act.put, List.setIfInBounds_toArray, List.set_cons_zero, List.set_cons_succ, i64_w, i32_w]
                                      rfl
                                    refine take_ (i := 0) (N := some 91) (v := ?_) (a' := ?_) #[true, false, true, true, false, false, true, true, false, false, false, true, true, false, false, false, true, true, false, false, false, true, true, true, true, false, false, false, true, true, true, true, false, false, false, false, false, false, false, false, false, false, false, false, false, false, false, false, false, false, false, false, false, false, false, false, false, false, false, false, false, false, false] rfl rfl (take_ofW HT_.out HW_.out (by kernel_rfl)) (fun _ _ _ h => h) (Or.inl ⟨by rfl, ?_⟩) hHeld ?_ ?_
                                    rotate_left
                                    · rintro w' ⟨s0, s1, s2, s3, s4, s5, s6, s7, s8, s9, s10, s11, s12, s13, s14, s15, s16, s17⟩
                                      go_simp
                                      with_reducible rfl
                                    rotate_left
                                    · simp only [Act.put, List.setIfInBounds_toArray, List.set_cons_zero, List.set_cons_succ, i64_w, i32_w]
                                      rfl
                                    refine one_ (i := 1) (N := some 92) #[true, true, true, true, false, false, true, true, false, false, false, true, true, false, false, false, true, true, false, false, false, true, true, true, true, false, false, false, true, true, true, true, false, false, false, false, false, false, false, false, false, false, false, false, false, false, false, false, false, false, false, false, false, false, false, false, false, false, false, false, false, false, false] rfl rfl (one_of HT_.out (by kernel_rfl)) (by decide) (fun K hK => ?_)
                                    refine goes_ Try.func13 (by kernel_rfl) rfl #[.agg #[.string t268, .string t269, .string t270, .string t271, .string t272, .string t273]] (by rfl) rfl rfl (by (try simp only [List.map_toArray, List.map_cons, List.map_nil]); first | done | rfl | (simp only [List.length_drop, List.length_take]; rfl)) ?_
                                    with_reducible refine (tupl_Text.calls kj11 t268 t269 t270 t271 t272 t273 t285 _ A48.out).mono ?_
                                    rintro e w85 ⟨rfl, hb⟩
                                    refine ⟨_, rfl, ?_⟩
                                    have n0_ := Aside0.mk (blk_below (g := gb274) (o := .cells #[.string t268, .string t269, .string t270, .string t271, .string t272, .string t273] 29 (0, 0)) (by (with_reducible repeat (first | refine blk_drewN ?_ _ | refine blk_drew ?_ | refine blk_alloc ?_ _)); exact BK274.out) hb)
                                    have n1_ := Aside0.mk (blk_below (g := gb275) (o := .cells #[.string x276000_11, .string x276001_11, .string x276002_11, .string x276003_11, .string x276004_11, .string x276005_11] 29 (0, 0)) (by (with_reducible repeat (first | refine blk_drewN ?_ _ | refine blk_drew ?_ | refine blk_alloc ?_ _)); exact BK275.out) hb)
                                    have n2_ := Aside0.mk (blk_below (g := gb284) (o := .cells #[.string t277, .string t278, .string t279, .string t280, .string t281, .string t282] 29 (0, 0)) (by (with_reducible repeat (first | refine blk_drewN ?_ _ | refine blk_drew ?_ | refine blk_alloc ?_ _)); exact BK284.out) hb)
                                    have n3_ := Aside0.mk (below_step (by repeat (first | (with_reducible first | exact HB.out | apply below_alloc | apply pw_below_drewN | apply below_drew1 | refine below_set ?_ GE274.out | refine below_set ?_ GE275.out | refine below_set ?_ GE284.out) | exact HB.out)) hb)
                                    clear BK274
                                    clear BK275
                                    clear BK284
                                    clear HB
                                    have BK274 := n0_
                                    have BK275 := n1_
                                    have BK284 := n2_
                                    have HB := n3_
                                    clear n0_ n1_ n2_ n3_
                                    (try clear hb)
                                    (try clear hb2)
                                    (try clear hk)
                                    (try clear hi)
                                    refine hK.out _ _ ⟨(blk_cell BK274.out 0).trans rfl, (blk_cell BK274.out 1).trans rfl, (blk_cell BK274.out 2).trans rfl, (blk_cell BK274.out 3).trans rfl, (blk_cell BK274.out 4).trans rfl, (blk_cell BK274.out 5).trans rfl, (blk_cell BK275.out 0).trans rfl, (blk_cell BK275.out 1).trans rfl, (blk_cell BK275.out 2).trans rfl, (blk_cell BK275.out 3).trans rfl, (blk_cell BK275.out 4).trans rfl, (blk_cell BK275.out 5).trans rfl, (blk_cell BK284.out 0).trans rfl, (blk_cell BK284.out 1).trans rfl, (blk_cell BK284.out 2).trans rfl, (blk_cell BK284.out 3).trans rfl, (blk_cell BK284.out 4).trans rfl, (blk_cell BK284.out 5).trans rfl⟩ (fun hHeld => ?_)
                                    clear hK K
                                    refine norm_ (a' := ?_) ?_ ?_
                                    rotate_left
                                    · show Act.put _ (some 92) _ = _
                                      simp only [Act.put, List.setIfInBounds_toArray, List.set_cons_zero, List.set_cons_succ, i64_w, i32_w]
                                      rfl
                                    refine one_ (i := 4) (N := some 95) #[true, true, true, true, true, false, true, true, false, false, false, true, true, false, false, false, true, true, false, false, false, true, true, true, true, false, false, false, true, true, true, true, false, false, false, false, false, false, false, false, false, false, false, false, false, false, false, false, false, false, false, false, false, false, false, false, false, false, false, false, false, false, false] rfl rfl (one_of HT_.out (by kernel_rfl)) (by decide) (fun K hK => ?_)
                                    refine goesv_ (f := 15) (fn := Try.f15) Try.func15 (by kernel_rfl) rfl #[.int .i64 a0] (by rfl) rfl rfl (by first | rfl | (simp only [Act.eval]; rfl)) (by (try simp only [List.map_toArray, List.map_cons, List.map_nil]); first | done | rfl | (simp only [List.length_drop, List.length_take]; rfl)) ?_
                                    with_reducible refine (entaillaw1_Nm.calls a0 t286 _ A49.out).mono ?_
                                    rintro e w86 ⟨rfl, hb⟩
                                    refine ⟨_, rfl, ?_⟩
                                    have n0_ := Aside0.mk (blk_below (g := gb274) (o := .cells #[.string t268, .string t269, .string t270, .string t271, .string t272, .string t273] 29 (0, 0)) (by (with_reducible repeat (first | refine blk_drewN ?_ _ | refine blk_drew ?_ | refine blk_alloc ?_ _)); exact BK274.out) hb)
                                    have n1_ := Aside0.mk (blk_below (g := gb275) (o := .cells #[.string x276000_11, .string x276001_11, .string x276002_11, .string x276003_11, .string x276004_11, .string x276005_11] 29 (0, 0)) (by (with_reducible repeat (first | refine blk_drewN ?_ _ | refine blk_drew ?_ | refine blk_alloc ?_ _)); exact BK275.out) hb)
                                    have n2_ := Aside0.mk (blk_below (g := gb284) (o := .cells #[.string t277, .string t278, .string t279, .string t280, .string t281, .string t282] 29 (0, 0)) (by (with_reducible repeat (first | refine blk_drewN ?_ _ | refine blk_drew ?_ | refine blk_alloc ?_ _)); exact BK284.out) hb)
                                    have n3_ := Aside0.mk (below_step (by repeat (first | (with_reducible first | exact HB.out | apply below_alloc | apply pw_below_drewN | apply below_drew1 | refine below_set ?_ GE274.out | refine below_set ?_ GE275.out | refine below_set ?_ GE284.out) | exact HB.out)) hb)
                                    clear BK274
                                    clear BK275
                                    clear BK284
                                    clear HB
                                    have BK274 := n0_
                                    have BK275 := n1_
                                    have BK284 := n2_
                                    have HB := n3_
                                    clear n0_ n1_ n2_ n3_
                                    (try clear hb)
                                    (try clear hb2)
                                    (try clear hk)
                                    (try clear hi)
                                    refine hK.out _ _ ⟨(blk_cell BK274.out 0).trans rfl, (blk_cell BK274.out 1).trans rfl, (blk_cell BK274.out 2).trans rfl, (blk_cell BK274.out 3).trans rfl, (blk_cell BK274.out 4).trans rfl, (blk_cell BK274.out 5).trans rfl, (blk_cell BK275.out 0).trans rfl, (blk_cell BK275.out 1).trans rfl, (blk_cell BK275.out 2).trans rfl, (blk_cell BK275.out 3).trans rfl, (blk_cell BK275.out 4).trans rfl, (blk_cell BK275.out 5).trans rfl, (blk_cell BK284.out 0).trans rfl, (blk_cell BK284.out 1).trans rfl, (blk_cell BK284.out 2).trans rfl, (blk_cell BK284.out 3).trans rfl, (blk_cell BK284.out 4).trans rfl, (blk_cell BK284.out 5).trans rfl⟩ (fun hHeld => ?_)
                                    clear hK K
                                    refine norm_ (a' := ?_) ?_ ?_
                                    rotate_left
                                    · show Act.put _ (some 95) _ = _
                                      simp only [Act.put, List.setIfInBounds_toArray, List.set_cons_zero, List.set_cons_succ, i64_w, i32_w]
                                      rfl
                                    refine pure_ (i := 5) (N := some 96) (v := ?_) (a' := ?_) #[true, true, true, true, true, true, true, true, false, false, false, true, true, false, false, false, true, true, false, false, false, true, true, true, true, false, false, false, true, true, true, true, false, false, false, false, false, false, false, false, false, false, false, false, false, false, false, false, false, false, false, false, false, false, false, false, false, false, false, false, false, false, false] rfl rfl (any_of HT_.out (by kernel_rfl)) (fun _ _ _ h => h) (Or.inl ⟨by rfl, ?_⟩) ?_ ?_
                                    rotate_left
                                    · intro w'
                                      go_simp
                                      with_reducible rfl
                                    rotate_left
                                    · simp only [Act.put, List.setIfInBounds_toArray, List.set_cons_zero, List.set_cons_succ, i64_w, i32_w]
                                      rfl
                                    refine one_ (i := 8) (N := some 99) #[true, true, true, true, true, true, true, true, true, false, false, true, true, false, false, false, true, true, false, false, false, true, true, true, true, false, false, false, true, true, true, true, false, false, false, false, false, false, false, false, false, false, false, false, false, false, false, false, false, false, false, false, false, false, false, false, false, false, false, false, false, false, false] rfl rfl (one_of HT_.out (by kernel_rfl)) (by decide) (fun K hK => ?_)
                                    refine goesv_ (f := 15) (fn := Try.f15) Try.func15 (by kernel_rfl) rfl #[.int .i64 a1] (by rfl) rfl rfl (by first | rfl | (simp only [Act.eval]; rfl)) (by (try simp only [List.map_toArray, List.map_cons, List.map_nil]); first | done | rfl | (simp only [List.length_drop, List.length_take]; rfl)) ?_
                                    with_reducible refine (entaillaw1_Nm.calls a1 t287 _ A51.out).mono ?_
                                    rintro e w87 ⟨rfl, hb⟩
                                    refine ⟨_, rfl, ?_⟩
                                    have n0_ := Aside0.mk (blk_below (g := gb274) (o := .cells #[.string t268, .string t269, .string t270, .string t271, .string t272, .string t273] 29 (0, 0)) (by (with_reducible repeat (first | refine blk_drewN ?_ _ | refine blk_drew ?_ | refine blk_alloc ?_ _)); exact BK274.out) hb)
                                    have n1_ := Aside0.mk (blk_below (g := gb275) (o := .cells #[.string x276000_11, .string x276001_11, .string x276002_11, .string x276003_11, .string x276004_11, .string x276005_11] 29 (0, 0)) (by (with_reducible repeat (first | refine blk_drewN ?_ _ | refine blk_drew ?_ | refine blk_alloc ?_ _)); exact BK275.out) hb)
                                    have n2_ := Aside0.mk (blk_below (g := gb284) (o := .cells #[.string t277, .string t278, .string t279, .string t280, .string t281, .string t282] 29 (0, 0)) (by (with_reducible repeat (first | refine blk_drewN ?_ _ | refine blk_drew ?_ | refine blk_alloc ?_ _)); exact BK284.out) hb)
                                    have n3_ := Aside0.mk (below_step (by repeat (first | (with_reducible first | exact HB.out | apply below_alloc | apply pw_below_drewN | apply below_drew1 | refine below_set ?_ GE274.out | refine below_set ?_ GE275.out | refine below_set ?_ GE284.out) | exact HB.out)) hb)
                                    clear BK274
                                    clear BK275
                                    clear BK284
                                    clear HB
                                    have BK274 := n0_
                                    have BK275 := n1_
                                    have BK284 := n2_
                                    have HB := n3_
                                    clear n0_ n1_ n2_ n3_
                                    (try clear hb)
                                    (try clear hb2)
                                    (try clear hk)
                                    (try clear hi)
                                    refine hK.out _ _ ⟨(blk_cell BK274.out 0).trans rfl, (blk_cell BK274.out 1).trans rfl, (blk_cell BK274.out 2).trans rfl, (blk_cell BK274.out 3).trans rfl, (blk_cell BK274.out 4).trans rfl, (blk_cell BK274.out 5).trans rfl, (blk_cell BK275.out 0).trans rfl, (blk_cell BK275.out 1).trans rfl, (blk_cell BK275.out 2).trans rfl, (blk_cell BK275.out 3).trans rfl, (blk_cell BK275.out 4).trans rfl, (blk_cell BK275.out 5).trans rfl, (blk_cell BK284.out 0).trans rfl, (blk_cell BK284.out 1).trans rfl, (blk_cell BK284.out 2).trans rfl, (blk_cell BK284.out 3).trans rfl, (blk_cell BK284.out 4).trans rfl, (blk_cell BK284.out 5).trans rfl⟩ (fun hHeld => ?_)
                                    clear hK K
                                    refine norm_ (a' := ?_) ?_ ?_
                                    rotate_left
                                    · show Act.put _ (some 99) _ = _
                                      simp only [Act.put, List.setIfInBounds_toArray, List.set_cons_zero, List.set_cons_succ, i64_w, i32_w]
                                      rfl
                                    refine pure_ (i := 9) (N := some 100) (v := ?_) (a' := ?_) #[true, true, true, true, true, true, true, true, true, true, false, true, true, false, false, false, true, true, false, false, false, true, true, true, true, false, false, false, true, true, true, true, false, false, false, false, false, false, false, false, false, false, false, false, false, false, false, false, false, false, false, false, false, false, false, false, false, false, false, false, false, false, false] rfl rfl (any_of HT_.out (by kernel_rfl)) (fun _ _ _ h => h) (Or.inl ⟨by rfl, ?_⟩) ?_ ?_
                                    rotate_left
                                    · intro w'
                                      go_simp
                                      with_reducible rfl
                                    rotate_left
                                    · simp only [Act.put, List.setIfInBounds_toArray, List.set_cons_zero, List.set_cons_succ, i64_w, i32_w]
                                      rfl
                                    refine pure_ (i := 10) (N := some 101) (v := ?_) (a' := ?_) #[true, true, true, true, true, true, true, true, true, true, true, true, true, false, false, false, true, true, false, false, false, true, true, true, true, false, false, false, true, true, true, true, false, false, false, false, false, false, false, false, false, false, false, false, false, false, false, false, false, false, false, false, false, false, false, false, false, false, false, false, false, false, false] rfl rfl (any_of HT_.out (by kernel_rfl)) (fun _ _ _ h => h) (Or.inl ⟨by rfl, ?_⟩) ?_ ?_
                                    rotate_left
                                    · intro w'
                                      go_simp
                                      with_reducible rfl
                                    rotate_left
                                    · simp only [Act.put, List.setIfInBounds_toArray, List.set_cons_zero, List.set_cons_succ, i64_w, i32_w]
                                      rfl
                                    refine one_ (i := 13) (N := some 104) #[true, true, true, true, true, true, true, true, true, true, true, true, true, true, false, false, true, true, false, false, false, true, true, true, true, false, false, false, true, true, true, true, false, false, false, false, false, false, false, false, false, false, false, false, false, false, false, false, false, false, false, false, false, false, false, false, false, false, false, false, false, false, false] rfl rfl (one_of HT_.out (by kernel_rfl)) (by decide) (fun K hK => ?_)
                                    refine goesv_ (f := 15) (fn := Try.f15) Try.func15 (by kernel_rfl) rfl #[.int .i64 a2] (by rfl) rfl rfl (by first | rfl | (simp only [Act.eval]; rfl)) (by (try simp only [List.map_toArray, List.map_cons, List.map_nil]); first | done | rfl | (simp only [List.length_drop, List.length_take]; rfl)) ?_
                                    with_reducible refine (entaillaw1_Nm.calls a2 t288 _ A54.out).mono ?_
                                    rintro e w88 ⟨rfl, hb⟩
                                    refine ⟨_, rfl, ?_⟩
                                    have n0_ := Aside0.mk (blk_below (g := gb274) (o := .cells #[.string t268, .string t269, .string t270, .string t271, .string t272, .string t273] 29 (0, 0)) (by (with_reducible repeat (first | refine blk_drewN ?_ _ | refine blk_drew ?_ | refine blk_alloc ?_ _)); exact BK274.out) hb)
                                    have n1_ := Aside0.mk (blk_below (g := gb275) (o := .cells #[.string x276000_11, .string x276001_11, .string x276002_11, .string x276003_11, .string x276004_11, .string x276005_11] 29 (0, 0)) (by (with_reducible repeat (first | refine blk_drewN ?_ _ | refine blk_drew ?_ | refine blk_alloc ?_ _)); exact BK275.out) hb)
                                    have n2_ := Aside0.mk (blk_below (g := gb284) (o := .cells #[.string t277, .string t278, .string t279, .string t280, .string t281, .string t282] 29 (0, 0)) (by (with_reducible repeat (first | refine blk_drewN ?_ _ | refine blk_drew ?_ | refine blk_alloc ?_ _)); exact BK284.out) hb)
                                    have n3_ := Aside0.mk (below_step (by repeat (first | (with_reducible first | exact HB.out | apply below_alloc | apply pw_below_drewN | apply below_drew1 | refine below_set ?_ GE274.out | refine below_set ?_ GE275.out | refine below_set ?_ GE284.out) | exact HB.out)) hb)
                                    clear BK274
                                    clear BK275
                                    clear BK284
                                    clear HB
                                    have BK274 := n0_
                                    have BK275 := n1_
                                    have BK284 := n2_
                                    have HB := n3_
                                    clear n0_ n1_ n2_ n3_
                                    (try clear hb)
                                    (try clear hb2)
                                    (try clear hk)
                                    (try clear hi)
                                    refine hK.out _ _ ⟨(blk_cell BK274.out 0).trans rfl, (blk_cell BK274.out 1).trans rfl, (blk_cell BK274.out 2).trans rfl, (blk_cell BK274.out 3).trans rfl, (blk_cell BK274.out 4).trans rfl, (blk_cell BK274.out 5).trans rfl, (blk_cell BK275.out 0).trans rfl, (blk_cell BK275.out 1).trans rfl, (blk_cell BK275.out 2).trans rfl, (blk_cell BK275.out 3).trans rfl, (blk_cell BK275.out 4).trans rfl, (blk_cell BK275.out 5).trans rfl, (blk_cell BK284.out 0).trans rfl, (blk_cell BK284.out 1).trans rfl, (blk_cell BK284.out 2).trans rfl, (blk_cell BK284.out 3).trans rfl, (blk_cell BK284.out 4).trans rfl, (blk_cell BK284.out 5).trans rfl⟩ (fun hHeld => ?_)
                                    clear hK K
                                    refine norm_ (a' := ?_) ?_ ?_
                                    rotate_left
                                    · show Act.put _ (some 104) _ = _
                                      simp only [Act.put, List.setIfInBounds_toArray, List.set_cons_zero, List.set_cons_succ, i64_w, i32_w]
                                      rfl
                                    refine pure_ (i := 14) (N := some 105) (v := ?_) (a' := ?_) #[true, true, true, true, true, true, true, true, true, true, true, true, true, true, true, false, true, true, false, false, false, true, true, true, true, false, false, false, true, true, true, true, false, false, false, false, false, false, false, false, false, false, false, false, false, false, false, false, false, false, false, false, false, false, false, false, false, false, false, false, false, false, false] rfl rfl (any_of HT_.out (by kernel_rfl)) (fun _ _ _ h => h) (Or.inl ⟨by rfl, ?_⟩) ?_ ?_
                                    rotate_left
                                    · intro w'
                                      go_simp
                                      with_reducible rfl
                                    rotate_left
                                    · simp only [Act.put, List.setIfInBounds_toArray, List.set_cons_zero, List.set_cons_succ, i64_w, i32_w]
                                      rfl
                                    refine pure_ (i := 15) (N := some 106) (v := ?_) (a' := ?_) #[true, true, true, true, true, true, true, true, true, true, true, true, true, true, true, true, true, true, false, false, false, true, true, true, true, false, false, false, true, true, true, true, false, false, false, false, false, false, false, false, false, false, false, false, false, false, false, false, false, false, false, false, false, false, false, false, false, false, false, false, false, false, false] rfl rfl (any_of HT_.out (by kernel_rfl)) (fun _ _ _ h => h) (Or.inl ⟨by rfl, ?_⟩) ?_ ?_
                                    rotate_left
                                    · intro w'
                                      go_simp
                                      with_reducible rfl
                                    rotate_left
                                    · simp only [Act.put, List.setIfInBounds_toArray, List.set_cons_zero, List.set_cons_succ, i64_w, i32_w]
                                      rfl
                                    refine one_ (i := 18) (N := some 109) #[true, true, true, true, true, true, true, true, true, true, true, true, true, true, true, true, true, true, true, false, false, true, true, true, true, false, false, false, true, true, true, true, false, false, false, false, false, false, false, false, false, false, false, false, false, false, false, false, false, false, false, false, false, false, false, false, false, false, false, false, false, false, false] rfl rfl (one_of HT_.out (by kernel_rfl)) (by decide) (fun K hK => ?_)
                                    refine goesv_ (f := 15) (fn := Try.f15) Try.func15 (by kernel_rfl) rfl #[.int .i64 a3] (by rfl) rfl rfl (by first | rfl | (simp only [Act.eval]; rfl)) (by (try simp only [List.map_toArray, List.map_cons, List.map_nil]); first | done | rfl | (simp only [List.length_drop, List.length_take]; rfl)) ?_
                                    with_reducible refine (entaillaw1_Nm.calls a3 t289 _ A57.out).mono ?_
                                    rintro e w89 ⟨rfl, hb⟩
                                    refine ⟨_, rfl, ?_⟩
                                    have n0_ := Aside0.mk (blk_below (g := gb274) (o := .cells #[.string t268, .string t269, .string t270, .string t271, .string t272, .string t273] 29 (0, 0)) (by (with_reducible repeat (first | refine blk_drewN ?_ _ | refine blk_drew ?_ | refine blk_alloc ?_ _)); exact BK274.out) hb)
                                    have n1_ := Aside0.mk (blk_below (g := gb275) (o := .cells #[.string x276000_11, .string x276001_11, .string x276002_11, .string x276003_11, .string x276004_11, .string x276005_11] 29 (0, 0)) (by (with_reducible repeat (first | refine blk_drewN ?_ _ | refine blk_drew ?_ | refine blk_alloc ?_ _)); exact BK275.out) hb)
                                    have n2_ := Aside0.mk (blk_below (g := gb284) (o := .cells #[.string t277, .string t278, .string t279, .string t280, .string t281, .string t282] 29 (0, 0)) (by (with_reducible repeat (first | refine blk_drewN ?_ _ | refine blk_drew ?_ | refine blk_alloc ?_ _)); exact BK284.out) hb)
                                    have n3_ := Aside0.mk (below_step (by repeat (first | (with_reducible first | exact HB.out | apply below_alloc | apply pw_below_drewN | apply below_drew1 | refine below_set ?_ GE274.out | refine below_set ?_ GE275.out | refine below_set ?_ GE284.out) | exact HB.out)) hb)
                                    clear BK274
                                    clear BK275
                                    clear BK284
                                    clear HB
                                    have BK274 := n0_
                                    have BK275 := n1_
                                    have BK284 := n2_
                                    have HB := n3_
                                    clear n0_ n1_ n2_ n3_
                                    (try clear hb)
                                    (try clear hb2)
                                    (try clear hk)
                                    (try clear hi)
                                    refine hK.out _ _ ⟨(blk_cell BK274.out 0).trans rfl, (blk_cell BK274.out 1).trans rfl, (blk_cell BK274.out 2).trans rfl, (blk_cell BK274.out 3).trans rfl, (blk_cell BK274.out 4).trans rfl, (blk_cell BK274.out 5).trans rfl, (blk_cell BK275.out 0).trans rfl, (blk_cell BK275.out 1).trans rfl, (blk_cell BK275.out 2).trans rfl, (blk_cell BK275.out 3).trans rfl, (blk_cell BK275.out 4).trans rfl, (blk_cell BK275.out 5).trans rfl, (blk_cell BK284.out 0).trans rfl, (blk_cell BK284.out 1).trans rfl, (blk_cell BK284.out 2).trans rfl, (blk_cell BK284.out 3).trans rfl, (blk_cell BK284.out 4).trans rfl, (blk_cell BK284.out 5).trans rfl⟩ (fun hHeld => ?_)
                                    clear hK K
                                    refine norm_ (a' := ?_) ?_ ?_
                                    rotate_left
                                    · show Act.put _ (some 109) _ = _
                                      simp only [Act.put, List.setIfInBounds_toArray, List.set_cons_zero, List.set_cons_succ, i64_w, i32_w]
                                      rfl
                                    refine pure_ (i := 19) (N := some 110) (v := ?_) (a' := ?_) #[true, true, true, true, true, true, true, true, true, true, true, true, true, true, true, true, true, true, true, true, false, true, true, true, true, false, false, false, true, true, true, true, false, false, false, false, false, false, false, false, false, false, false, false, false, false, false, false, false, false, false, false, false, false, false, false, false, false, false, false, false, false, false] rfl rfl (any_of HT_.out (by kernel_rfl)) (fun _ _ _ h => h) (Or.inl ⟨by rfl, ?_⟩) ?_ ?_
                                    rotate_left
                                    · intro w'
                                      go_simp
                                      with_reducible rfl
                                    rotate_left
                                    · simp only [Act.put, List.setIfInBounds_toArray, List.set_cons_zero, List.set_cons_succ, i64_w, i32_w]
                                      rfl
                                    refine pure_ (i := 20) (N := some 111) (v := ?_) (a' := ?_) #[true, true, true, true, true, true, true, true, true, true, true, true, true, true, true, true, true, true, true, true, true, true, true, true, true, false, false, false, true, true, true, true, false, false, false, false, false, false, false, false, false, false, false, false, false, false, false, false, false, false, false, false, false, false, false, false, false, false, false, false, false, false, false] rfl rfl (any_of HT_.out (by kernel_rfl)) (fun _ _ _ h => h) (Or.inl ⟨by rfl, ?_⟩) ?_ ?_
                                    rotate_left
                                    · intro w'
                                      go_simp
                                      with_reducible rfl
                                    rotate_left
                                    · simp only [Act.put, List.setIfInBounds_toArray, List.set_cons_zero, List.set_cons_succ, i64_w, i32_w]
                                      rfl
                                    refine one_ (i := 25) (N := some 116) #[true, true, true, true, true, true, true, true, true, true, true, true, true, true, true, true, true, true, true, true, true, true, true, true, true, true, false, false, true, true, true, true, false, false, false, false, false, false, false, false, false, false, false, false, false, false, false, false, false, false, false, false, false, false, false, false, false, false, false, false, false, false, false] rfl rfl (one_of HT_.out (by kernel_rfl)) (by decide) (fun K hK => ?_)
                                    refine goesv_ (f := 15) (fn := Try.f15) Try.func15 (by kernel_rfl) rfl #[.int .i64 (wrap64 (a0 + a1))] (by rfl) rfl rfl (by first | rfl | (simp only [Act.eval]; rfl)) (by (try simp only [List.map_toArray, List.map_cons, List.map_nil]); first | done | rfl | (simp only [List.length_drop, List.length_take]; rfl)) ?_
                                    with_reducible refine (entaillaw1_Nm.calls (wrap64 (a0 + a1)) t290 _ A60.out).mono ?_
                                    rintro e w90 ⟨rfl, hb⟩
                                    refine ⟨_, rfl, ?_⟩
                                    have n0_ := Aside0.mk (blk_below (g := gb274) (o := .cells #[.string t268, .string t269, .string t270, .string t271, .string t272, .string t273] 29 (0, 0)) (by (with_reducible repeat (first | refine blk_drewN ?_ _ | refine blk_drew ?_ | refine blk_alloc ?_ _)); exact BK274.out) hb)
                                    have n1_ := Aside0.mk (blk_below (g := gb275) (o := .cells #[.string x276000_11, .string x276001_11, .string x276002_11, .string x276003_11, .string x276004_11, .string x276005_11] 29 (0, 0)) (by (with_reducible repeat (first | refine blk_drewN ?_ _ | refine blk_drew ?_ | refine blk_alloc ?_ _)); exact BK275.out) hb)
                                    have n2_ := Aside0.mk (blk_below (g := gb284) (o := .cells #[.string t277, .string t278, .string t279, .string t280, .string t281, .string t282] 29 (0, 0)) (by (with_reducible repeat (first | refine blk_drewN ?_ _ | refine blk_drew ?_ | refine blk_alloc ?_ _)); exact BK284.out) hb)
                                    have n3_ := Aside0.mk (below_step (by repeat (first | (with_reducible first | exact HB.out | apply below_alloc | apply pw_below_drewN | apply below_drew1 | refine below_set ?_ GE274.out | refine below_set ?_ GE275.out | refine below_set ?_ GE284.out) | exact HB.out)) hb)
                                    clear BK274
                                    clear BK275
                                    clear BK284
                                    clear HB
                                    have BK274 := n0_
                                    have BK275 := n1_
                                    have BK284 := n2_
                                    have HB := n3_
                                    clear n0_ n1_ n2_ n3_
                                    (try clear hb)
                                    (try clear hb2)
                                    (try clear hk)
                                    (try clear hi)
                                    refine hK.out _ _ ⟨(blk_cell BK274.out 0).trans rfl, (blk_cell BK274.out 1).trans rfl, (blk_cell BK274.out 2).trans rfl, (blk_cell BK274.out 3).trans rfl, (blk_cell BK274.out 4).trans rfl, (blk_cell BK274.out 5).trans rfl, (blk_cell BK275.out 0).trans rfl, (blk_cell BK275.out 1).trans rfl, (blk_cell BK275.out 2).trans rfl, (blk_cell BK275.out 3).trans rfl, (blk_cell BK275.out 4).trans rfl, (blk_cell BK275.out 5).trans rfl, (blk_cell BK284.out 0).trans rfl, (blk_cell BK284.out 1).trans rfl, (blk_cell BK284.out 2).trans rfl, (blk_cell BK284.out 3).trans rfl, (blk_cell BK284.out 4).trans rfl, (blk_cell BK284.out 5).trans rfl⟩ (fun hHeld => ?_)
                                    clear hK K
                                    refine norm_ (a' := ?_) ?_ ?_
                                    rotate_left
                                    · show Act.put _ (some 116) _ = _
                                      simp only [Act.put, List.setIfInBounds_toArray, List.set_cons_zero, List.set_cons_succ, i64_w, i32_w]
                                      rfl
                                    refine pure_ (i := 26) (N := some 117) (v := ?_) (a' := ?_) #[true, true, true, true, true, true, true, true, true, true, true, true, true, true, true, true, true, true, true, true, true, true, true, true, true, true, true, false, true, true, true, true, false, false, false, false, false, false, false, false, false, false, false, false, false, false, false, false, false, false, false, false, false, false, false, false, false, false, false, false, false, false, false] rfl rfl (any_of HT_.out (by kernel_rfl)) (fun _ _ _ h => h) (Or.inl ⟨by rfl, ?_⟩) ?_ ?_
                                    rotate_left
                                    · intro w'
                                      go_simp
                                      with_reducible rfl
                                    rotate_left
                                    · simp only [Act.put, List.setIfInBounds_toArray, List.set_cons_zero, List.set_cons_succ, i64_w, i32_w]
                                      rfl
                                    refine pure_ (i := 27) (N := some 118) (v := ?_) (a' := ?_) #[true, true, true, true, true, true, true, true, true, true, true, true, true, true, true, true, true, true, true, true, true, true, true, true, true, true, true, true, true, true, true, true, false, false, false, false, false, false, false, false, false, false, false, false, false, false, false, false, false, false, false, false, false, false, false, false, false, false, false, false, false, false, false] rfl rfl (any_of HT_.out (by kernel_rfl)) (fun _ _ _ h => h) (Or.inl ⟨by rfl, ?_⟩) ?_ ?_
                                    rotate_left
                                    · intro w'
                                      go_simp
                                      with_reducible rfl
                                    rotate_left
                                    · simp only [Act.put, List.setIfInBounds_toArray, List.set_cons_zero, List.set_cons_succ, i64_w, i32_w]
                                      rfl
                                    refine one_ (i := 32) (N := some 123) #[true, true, true, true, true, true, true, true, true, true, true, true, true, true, true, true, true, true, true, true, true, true, true, true, true, true, true, true, true, true, true, true, true, false, false, false, false, false, false, false, false, false, false, false, false, false, false, false, false, false, false, false, false, false, false, false, false, false, false, false, false, false, false] rfl rfl (one_of HT_.out (by kernel_rfl)) (by decide) (fun K hK => ?_)
                                    refine goesv_ (f := 15) (fn := Try.f15) Try.func15 (by kernel_rfl) rfl #[.int .i64 (wrap64 (a2 + a3))] (by rfl) rfl rfl (by first | rfl | (simp only [Act.eval]; rfl)) (by (try simp only [List.map_toArray, List.map_cons, List.map_nil]); first | done | rfl | (simp only [List.length_drop, List.length_take]; rfl)) ?_
                                    with_reducible refine (entaillaw1_Nm.calls (wrap64 (a2 + a3)) t291 _ A63.out).mono ?_
                                    rintro e w91 ⟨rfl, hb⟩
                                    refine ⟨_, rfl, ?_⟩
                                    have n0_ := Aside0.mk (blk_below (g := gb274) (o := .cells #[.string t268, .string t269, .string t270, .string t271, .string t272, .string t273] 29 (0, 0)) (by (with_reducible repeat (first | refine blk_drewN ?_ _ | refine blk_drew ?_ | refine blk_alloc ?_ _)); exact BK274.out) hb)
                                    have n1_ := Aside0.mk (blk_below (g := gb275) (o := .cells #[.string x276000_11, .string x276001_11, .string x276002_11, .string x276003_11, .string x276004_11, .string x276005_11] 29 (0, 0)) (by (with_reducible repeat (first | refine blk_drewN ?_ _ | refine blk_drew ?_ | refine blk_alloc ?_ _)); exact BK275.out) hb)
                                    have n2_ := Aside0.mk (blk_below (g := gb284) (o := .cells #[.string t277, .string t278, .string t279, .string t280, .string t281, .string t282] 29 (0, 0)) (by (with_reducible repeat (first | refine blk_drewN ?_ _ | refine blk_drew ?_ | refine blk_alloc ?_ _)); exact BK284.out) hb)
                                    have n3_ := Aside0.mk (below_step (by repeat (first | (with_reducible first | exact HB.out | apply below_alloc | apply pw_below_drewN | apply below_drew1 | refine below_set ?_ GE274.out | refine below_set ?_ GE275.out | refine below_set ?_ GE284.out) | exact HB.out)) hb)
                                    clear BK274
                                    clear BK275
                                    clear BK284
                                    clear HB
                                    have BK274 := n0_
                                    have BK275 := n1_
                                    have BK284 := n2_
                                    have HB := n3_
                                    clear n0_ n1_ n2_ n3_
                                    (try clear hb)
                                    (try clear hb2)
                                    (try clear hk)
                                    (try clear hi)
                                    refine hK.out _ _ ⟨(blk_cell BK274.out 0).trans rfl, (blk_cell BK274.out 1).trans rfl, (blk_cell BK274.out 2).trans rfl, (blk_cell BK274.out 3).trans rfl, (blk_cell BK274.out 4).trans rfl, (blk_cell BK274.out 5).trans rfl, (blk_cell BK275.out 0).trans rfl, (blk_cell BK275.out 1).trans rfl, (blk_cell BK275.out 2).trans rfl, (blk_cell BK275.out 3).trans rfl, (blk_cell BK275.out 4).trans rfl, (blk_cell BK275.out 5).trans rfl, (blk_cell BK284.out 0).trans rfl, (blk_cell BK284.out 1).trans rfl, (blk_cell BK284.out 2).trans rfl, (blk_cell BK284.out 3).trans rfl, (blk_cell BK284.out 4).trans rfl, (blk_cell BK284.out 5).trans rfl⟩ (fun hHeld => ?_)
                                    clear hK K
                                    refine norm_ (a' := ?_) ?_ ?_
                                    rotate_left
                                    · show Act.put _ (some 123) _ = _
                                      simp only [Act.put, List.setIfInBounds_toArray, List.set_cons_zero, List.set_cons_succ, i64_w, i32_w]
                                      rfl
                                    refine pure_ (i := 33) (N := some 124) (v := ?_) (a' := ?_) #[true, true, true, true, true, true, true, true, true, true, true, true, true, true, true, true, true, true, true, true, true, true, true, true, true, true, true, true, true, true, true, true, true, true, false, false, false, false, false, false, false, false, false, false, false, false, false, false, false, false, false, false, false, false, false, false, false, false, false, false, false, false, false] rfl rfl (any_of HT_.out (by kernel_rfl)) (fun _ _ _ h => h) (Or.inl ⟨by rfl, ?_⟩) ?_ ?_
                                    rotate_left
                                    · intro w'
                                      go_simp
                                      with_reducible rfl
                                    rotate_left
                                    · simp only [Act.put, List.setIfInBounds_toArray, List.set_cons_zero, List.set_cons_succ, i64_w, i32_w]
                                      rfl
                                    refine pure_ (i := 34) (N := some 125) (v := ?_) (a' := ?_) #[true, true, true, true, true, true, true, true, true, true, true, true, true, true, true, true, true, true, true, true, true, true, true, true, true, true, true, true, true, true, true, true, true, true, true, false, false, false, false, false, false, false, false, false, false, false, false, false, false, false, false, false, false, false, false, false, false, false, false, false, false, false, false] rfl rfl (any_of HT_.out (by kernel_rfl)) (fun _ _ _ h => h) (Or.inl ⟨by rfl, ?_⟩) ?_ ?_
                                    rotate_left
                                    · intro w'
                                      go_simp
                                      with_reducible rfl
                                    rotate_left
                                    · simp only [Act.put, List.setIfInBounds_toArray, List.set_cons_zero, List.set_cons_succ, i64_w, i32_w]
                                      rfl
                                    refine pure_ (i := 35) (N := some 126) (v := ?_) (a' := ?_) #[true, true, true, true, true, true, true, true, true, true, true, true, true, true, true, true, true, true, true, true, true, true, true, true, true, true, true, true, true, true, true, true, true, true, true, true, false, false, false, false, false, false, false, false, false, false, false, false, false, false, false, false, false, false, false, false, false, false, false, false, false, false, false] rfl rfl (any_of HT_.out (by kernel_rfl)) (fun _ _ _ h => h) (Or.inl ⟨by rfl, ?_⟩) ?_ ?_
                                    rotate_left
                                    · intro w'
                                      go_simp
                                      with_reducible rfl
                                    rotate_left
                                    · simp only [Act.put, List.setIfInBounds_toArray, List.set_cons_zero, List.set_cons_succ, i64_w, i32_w]
                                      rfl
                                    refine take_ (i := 36) (N := some 127) (v := ?_) (a' := ?_) #[true, true, true, true, true, true, true, true, true, true, true, true, true, true, true, true, true, true, true, true, true, true, true, true, true, true, true, true, true, true, true, true, true, true, true, true, true, false, false, false, false, false, false, false, false, false, false, false, false, false, false, false, false, false, false, false, false, false, false, false, false, false, false] rfl rfl (take_ofW HT_.out HW_.out (by kernel_rfl)) (fun _ _ _ h => h) (Or.inl ⟨by rfl, ?_⟩) hHeld ?_ ?_
                                    rotate_left
                                    · rintro w' ⟨s0, s1, s2, s3, s4, s5, s6, s7, s8, s9, s10, s11, s12, s13, s14, s15, s16, s17⟩
                                      go_simp
                                      with_reducible rfl
                                    rotate_left
                                    · simp only [Act.put, List.setIfInBounds_toArray, List.set_cons_zero, List.set_cons_succ, i64_w, i32_w]
                                      rfl
                                    refine take_ (i := 38) (N := some 129) (v := ?_) (a' := ?_) #[true, true, true, true, true, true, true, true, true, true, true, true, true, true, true, true, true, true, true, true, true, true, true, true, true, true, true, true, true, true, true, true, true, true, true, true, true, false, true, false, false, false, false, false, false, false, false, false, false, false, false, false, false, false, false, false, false, false, false, false, false, false, false] rfl rfl (take_ofW HT_.out HW_.out (by kernel_rfl)) (fun _ _ _ h => h) (Or.inl ⟨by rfl, ?_⟩) hHeld ?_ ?_
                                    rotate_left
                                    · rintro w' ⟨s0, s1, s2, s3, s4, s5, s6, s7, s8, s9, s10, s11, s12, s13, s14, s15, s16, s17⟩
                                      go_simp
                                      with_reducible rfl
                                    rotate_left
                                    · simp only [Act.put, List.setIfInBounds_toArray, List.set_cons_zero, List.set_cons_succ, i64_w, i32_w]
                                      rfl
                                    refine one_ (i := 37) (N := some 128) #[true, true, true, true, true, true, true, true, true, true, true, true, true, true, true, true, true, true, true, true, true, true, true, true, true, true, true, true, true, true, true, true, true, true, true, true, true, true, true, false, false, false, false, false, false, false, false, false, false, false, false, false, false, false, false, false, false, false, false, false, false, false, false] rfl rfl (one_of HT_.out (by kernel_rfl)) (by decide) (fun K hK => ?_)
                                    refine goes_ Try.func13 (by kernel_rfl) rfl #[.agg #[.string x276000_11, .string x276001_11, .string x276002_11, .string x276003_11, .string x276004_11, .string x276005_11]] (by rfl) rfl rfl (by (try simp only [List.map_toArray, List.map_cons, List.map_nil]); first | done | rfl | (simp only [List.length_drop, List.length_take]; rfl)) ?_
                                    with_reducible refine (tupl_Text.calls kj11 x276000_11 x276001_11 x276002_11 x276003_11 x276004_11 x276005_11 t292 _ A66.out).mono ?_
                                    rintro e w92 ⟨rfl, hb⟩
                                    refine ⟨_, rfl, ?_⟩
                                    have n0_ := Aside0.mk (blk_below (g := gb274) (o := .cells #[.string t268, .string t269, .string t270, .string t271, .string t272, .string t273] 29 (0, 0)) (by (with_reducible repeat (first | refine blk_drewN ?_ _ | refine blk_drew ?_ | refine blk_alloc ?_ _)); exact BK274.out) hb)
                                    have n1_ := Aside0.mk (blk_below (g := gb275) (o := .cells #[.string x276000_11, .string x276001_11, .string x276002_11, .string x276003_11, .string x276004_11, .string x276005_11] 29 (0, 0)) (by (with_reducible repeat (first | refine blk_drewN ?_ _ | refine blk_drew ?_ | refine blk_alloc ?_ _)); exact BK275.out) hb)
                                    have n2_ := Aside0.mk (blk_below (g := gb284) (o := .cells #[.string t277, .string t278, .string t279, .string t280, .string t281, .string t282] 29 (0, 0)) (by (with_reducible repeat (first | refine blk_drewN ?_ _ | refine blk_drew ?_ | refine blk_alloc ?_ _)); exact BK284.out) hb)
                                    have n3_ := Aside0.mk (below_step (by repeat (first | (with_reducible first | exact HB.out | apply below_alloc | apply pw_below_drewN | apply below_drew1 | refine below_set ?_ GE274.out | refine below_set ?_ GE275.out | refine below_set ?_ GE284.out) | exact HB.out)) hb)
                                    clear BK274
                                    clear BK275
                                    clear BK284
                                    clear HB
                                    have BK274 := n0_
                                    have BK275 := n1_
                                    have BK284 := n2_
                                    have HB := n3_
                                    clear n0_ n1_ n2_ n3_
                                    (try clear hb)
                                    (try clear hb2)
                                    (try clear hk)
                                    (try clear hi)
                                    refine hK.out _ _ ⟨(blk_cell BK274.out 0).trans rfl, (blk_cell BK274.out 1).trans rfl, (blk_cell BK274.out 2).trans rfl, (blk_cell BK274.out 3).trans rfl, (blk_cell BK274.out 4).trans rfl, (blk_cell BK274.out 5).trans rfl, (blk_cell BK275.out 0).trans rfl, (blk_cell BK275.out 1).trans rfl, (blk_cell BK275.out 2).trans rfl, (blk_cell BK275.out 3).trans rfl, (blk_cell BK275.out 4).trans rfl, (blk_cell BK275.out 5).trans rfl, (blk_cell BK284.out 0).trans rfl, (blk_cell BK284.out 1).trans rfl, (blk_cell BK284.out 2).trans rfl, (blk_cell BK284.out 3).trans rfl, (blk_cell BK284.out 4).trans rfl, (blk_cell BK284.out 5).trans rfl⟩ (fun hHeld => ?_)
                                    clear hK K
                                    refine norm_ (a' := ?_) ?_ ?_
                                    rotate_left
                                    · show Act.put _ (some 128) _ = _
                                      simp only [Act.put, List.setIfInBounds_toArray, List.set_cons_zero, List.set_cons_succ, i64_w, i32_w]
                                      rfl
                                    refine one_ (i := 39) (N := some 130) #[true, true, true, true, true, true, true, true, true, true, true, true, true, true, true, true, true, true, true, true, true, true, true, true, true, true, true, true, true, true, true, true, true, true, true, true, true, true, true, true, false, false, false, false, false, false, false, false, false, false, false, false, false, false, false, false, false, false, false, false, false, false, false] rfl rfl (one_of HT_.out (by kernel_rfl)) (by decide) (fun K hK => ?_)
                                    refine goes_ Try.func13 (by kernel_rfl) rfl #[.agg #[.string t268, .string t269, .string t270, .string t271, .string t272, .string t273]] (by rfl) rfl rfl (by (try simp only [List.map_toArray, List.map_cons, List.map_nil]); first | done | rfl | (simp only [List.length_drop, List.length_take]; rfl)) ?_
                                    with_reducible refine (tupl_Text.calls kj11 t268 t269 t270 t271 t272 t273 t293 _ A67.out).mono ?_
                                    rintro e w93 ⟨rfl, hb⟩
                                    refine ⟨_, rfl, ?_⟩
                                    have n0_ := Aside0.mk (blk_below (g := gb274) (o := .cells #[.string t268, .string t269, .string t270, .string t271, .string t272, .string t273] 29 (0, 0)) (by (with_reducible repeat (first | refine blk_drewN ?_ _ | refine blk_drew ?_ | refine blk_alloc ?_ _)); exact BK274.out) hb)
                                    have n1_ := Aside0.mk (blk_below (g := gb275) (o := .cells #[.string x276000_11, .string x276001_11, .string x276002_11, .string x276003_11, .string x276004_11, .string x276005_11] 29 (0, 0)) (by (with_reducible repeat (first | refine blk_drewN ?_ _ | refine blk_drew ?_ | refine blk_alloc ?_ _)); exact BK275.out) hb)
                                    have n2_ := Aside0.mk (blk_below (g := gb284) (o := .cells #[.string t277, .string t278, .string t279, .string t280, .string t281, .string t282] 29 (0, 0)) (by (with_reducible repeat (first | refine blk_drewN ?_ _ | refine blk_drew ?_ | refine blk_alloc ?_ _)); exact BK284.out) hb)
                                    have n3_ := Aside0.mk (below_step (by repeat (first | (with_reducible first | exact HB.out | apply below_alloc | apply pw_below_drewN | apply below_drew1 | refine below_set ?_ GE274.out | refine below_set ?_ GE275.out | refine below_set ?_ GE284.out) | exact HB.out)) hb)
                                    clear BK274
                                    clear BK275
                                    clear BK284
                                    clear HB
                                    have BK274 := n0_
                                    have BK275 := n1_
                                    have BK284 := n2_
                                    have HB := n3_
                                    clear n0_ n1_ n2_ n3_
                                    (try clear hb)
                                    (try clear hb2)
                                    (try clear hk)
                                    (try clear hi)
                                    refine hK.out _ _ ⟨(blk_cell BK274.out 0).trans rfl, (blk_cell BK274.out 1).trans rfl, (blk_cell BK274.out 2).trans rfl, (blk_cell BK274.out 3).trans rfl, (blk_cell BK274.out 4).trans rfl, (blk_cell BK274.out 5).trans rfl, (blk_cell BK275.out 0).trans rfl, (blk_cell BK275.out 1).trans rfl, (blk_cell BK275.out 2).trans rfl, (blk_cell BK275.out 3).trans rfl, (blk_cell BK275.out 4).trans rfl, (blk_cell BK275.out 5).trans rfl, (blk_cell BK284.out 0).trans rfl, (blk_cell BK284.out 1).trans rfl, (blk_cell BK284.out 2).trans rfl, (blk_cell BK284.out 3).trans rfl, (blk_cell BK284.out 4).trans rfl, (blk_cell BK284.out 5).trans rfl⟩ (fun hHeld => ?_)
                                    clear hK K
                                    refine norm_ (a' := ?_) ?_ ?_
                                    rotate_left
                                    · show Act.put _ (some 130) _ = _
                                      simp only [Act.put, List.setIfInBounds_toArray, List.set_cons_zero, List.set_cons_succ, i64_w, i32_w]
                                      rfl
                                    refine pure_ (i := 40) (N := some 131) (v := ?_) (a' := ?_) #[true, true, true, true, true, true, true, true, true, true, true, true, true, true, true, true, true, true, true, true, true, true, true, true, true, true, true, true, true, true, true, true, true, true, true, true, true, true, true, true, true, false, false, false, false, false, false, false, false, false, false, false, false, false, false, false, false, false, false, false, false, false, false] rfl rfl (any_of HT_.out (by kernel_rfl)) (fun _ _ _ h => h) (Or.inl ⟨by rfl, ?_⟩) ?_ ?_
                                    rotate_left
                                    · intro w'
                                      go_simp
                                      with_reducible rfl
                                    rotate_left
                                    · simp only [Act.put, List.setIfInBounds_toArray, List.set_cons_zero, List.set_cons_succ, i64_w, i32_w]
                                      rfl
                                    refine pure_ (i := 41) (N := some 132) (v := ?_) (a' := ?_) #[true, true, true, true, true, true, true, true, true, true, true, true, true, true, true, true, true, true, true, true, true, true, true, true, true, true, true, true, true, true, true, true, true, true, true, true, true, true, true, true, true, true, false, false, false, false, false, false, false, false, false, false, false, false, false, false, false, false, false, false, false, false, false] rfl rfl (any_of HT_.out (by kernel_rfl)) (fun _ _ _ h => h) (Or.inl ⟨by rfl, ?_⟩) ?_ ?_
                                    rotate_left
                                    · intro w'
                                      go_simp
                                      with_reducible rfl
                                    rotate_left
                                    · simp only [Act.put, List.setIfInBounds_toArray, List.set_cons_zero, List.set_cons_succ, i64_w, i32_w]
                                      rfl
                                    refine pure_ (i := 42) (N := some 133) (v := ?_) (a' := ?_) #[true, true, true, true, true, true, true, true, true, true, true, true, true, true, true, true, true, true, true, true, true, true, true, true, true, true, true, true, true, true, true, true, true, true, true, true, true, true, true, true, true, true, true, false, false, false, false, false, false, false, false, false, false, false, false, false, false, false, false, false, false, false, false] rfl rfl (any_of HT_.out (by kernel_rfl)) (fun _ _ _ h => h) (Or.inl ⟨by rfl, ?_⟩) ?_ ?_
                                    rotate_left
                                    · intro w'
                                      go_simp
                                      with_reducible rfl
                                    rotate_left
                                    · simp only [Act.put, List.setIfInBounds_toArray, List.set_cons_zero, List.set_cons_succ, i64_w, i32_w]
                                      rfl
                                    refine pure_ (i := 43) (N := some 134) (v := ?_) (a' := ?_) #[true, true, true, true, true, true, true, true, true, true, true, true, true, true, true, true, true, true, true, true, true, true, true, true, true, true, true, true, true, true, true, true, true, true, true, true, true, true, true, true, true, true, true, true, false, false, false, false, false, false, false, false, false, false, false, false, false, false, false, false, false, false, false] rfl rfl (any_of HT_.out (by kernel_rfl)) (fun _ _ _ h => h) (Or.inl ⟨by rfl, ?_⟩) ?_ ?_
                                    rotate_left
                                    · intro w'
                                      go_simp
                                      with_reducible rfl
                                    rotate_left
                                    · simp only [Act.put, List.setIfInBounds_toArray, List.set_cons_zero, List.set_cons_succ, i64_w, i32_w]
                                      rfl
                                    refine pure_ (i := 44) (N := some 135) (v := ?_) (a' := ?_) #[true, true, true, true, true, true, true, true, true, true, true, true, true, true, true, true, true, true, true, true, true, true, true, true, true, true, true, true, true, true, true, true, true, true, true, true, true, true, true, true, true, true, true, true, true, false, false, false, false, false, false, false, false, false, false, false, false, false, false, false, false, false, false] rfl rfl (any_of HT_.out (by kernel_rfl)) (fun _ _ _ h => h) (Or.inl ⟨by rfl, ?_⟩) ?_ ?_
                                    rotate_left
                                    · intro w'
                                      go_simp
                                      with_reducible rfl
                                    rotate_left
                                    · simp only [Act.put, List.setIfInBounds_toArray, List.set_cons_zero, List.set_cons_succ, i64_w, i32_w]
                                      rfl
                                    refine pure_ (i := 45) (N := some 136) (v := ?_) (a' := ?_) #[true, true, true, true, true, true, true, true, true, true, true, true, true, true, true, true, true, true, true, true, true, true, true, true, true, true, true, true, true, true, true, true, true, true, true, true, true, true, true, true, true, true, true, true, true, true, false, false, false, false, false, false, false, false, false, false, false, false, false, false, false, false, false] rfl rfl (any_of HT_.out (by kernel_rfl)) (fun _ _ _ h => h) (Or.inl ⟨by rfl, ?_⟩) ?_ ?_
                                    rotate_left
                                    · intro w'
                                      go_simp
                                      with_reducible rfl
                                    rotate_left
                                    · simp only [Act.put, List.setIfInBounds_toArray, List.set_cons_zero, List.set_cons_succ, i64_w, i32_w]
                                      rfl
                                    refine take_ (i := 46) (N := some 137) (v := ?_) (a' := ?_) #[true, true, true, true, true, true, true, true, true, true, true, true, true, true, true, true, true, true, true, true, true, true, true, true, true, true, true, true, true, true, true, true, true, true, true, true, true, true, true, true, true, true, true, true, true, true, true, false, false, false, false, false, false, false, false, false, false, false, false, false, false, false, false] rfl rfl (take_ofW HT_.out HW_.out (by kernel_rfl)) (fun _ _ _ h => h) (Or.inl ⟨by rfl, ?_⟩) hHeld ?_ ?_
                                    rotate_left
                                    · rintro w' ⟨s0, s1, s2, s3, s4, s5, s6, s7, s8, s9, s10, s11, s12, s13, s14, s15, s16, s17⟩
                                      go_simp
                                      with_reducible rfl
                                    rotate_left
                                    · simp only [Act.put, List.setIfInBounds_toArray, List.set_cons_zero, List.set_cons_succ, i64_w, i32_w]
                                      rfl
                                    refine take_ (i := 47) (N := some 138) (v := ?_) (a' := ?_) #[true, true, true, true, true, true, true, true, true, true, true, true, true, true, true, true, true, true, true, true, true, true, true, true, true, true, true, true, true, true, true, true, true, true, true, true, true, true, true, true, true, true, true, true, true, true, true, true, false, false, false, false, false, false, false, false, false, false, false, false, false, false, false] rfl rfl (take_ofW HT_.out HW_.out (by kernel_rfl)) (fun _ _ _ h => h) (Or.inl ⟨by rfl, ?_⟩) hHeld ?_ ?_
                                    rotate_left
                                    · rintro w' ⟨s0, s1, s2, s3, s4, s5, s6, s7, s8, s9, s10, s11, s12, s13, s14, s15, s16, s17⟩
                                      go_simp
                                      with_reducible rfl
                                    rotate_left
                                    · simp only [Act.put, List.setIfInBounds_toArray, List.set_cons_zero, List.set_cons_succ, i64_w, i32_w]
                                      rfl
                                    refine pure_ (i := 48) (N := some 139) (v := ?_) (a' := ?_) #[true, true, true, true, true, true, true, true, true, true, true, true, true, true, true, true, true, true, true, true, true, true, true, true, true, true, true, true, true, true, true, true, true, true, true, true, true, true, true, true, true, true, true, true, true, true, true, true, true, false, false, false, false, false, false, false, false, false, false, false, false, false, false] rfl rfl (any_of HT_.out (by kernel_rfl)) (fun _ _ _ h => h) (Or.inl ⟨by rfl, ?_⟩) ?_ ?_
                                    rotate_left
                                    · intro w'
                                      go_simp
                                      with_reducible rfl
                                    rotate_left
                                    · simp only [Act.put, List.setIfInBounds_toArray, List.set_cons_zero, List.set_cons_succ, i64_w, i32_w]
                                      rfl
                                    refine pure_ (i := 49) (N := some 140) (v := ?_) (a' := ?_) #[true, true, true, true, true, true, true, true, true, true, true, true, true, true, true, true, true, true, true, true, true, true, true, true, true, true, true, true, true, true, true, true, true, true, true, true, true, true, true, true, true, true, true, true, true, true, true, true, true, true, false, false, false, false, false, false, false, false, false, false, false, false, false] rfl rfl (any_of HT_.out (by kernel_rfl)) (fun _ _ _ h => h) (Or.inl ⟨by rfl, ?_⟩) ?_ ?_
                                    rotate_left
                                    · intro w'
                                      go_simp
                                      with_reducible rfl
                                    rotate_left
                                    · simp only [Act.put, List.setIfInBounds_toArray, List.set_cons_zero, List.set_cons_succ, i64_w, i32_w]
                                      rfl
                                    refine pure_ (i := 50) (N := some 141) (v := ?_) (a' := ?_) #[true, true, true, true, true, true, true, true, true, true, true, true, true, true, true, true, true, true, true, true, true, true, true, true, true, true, true, true, true, true, true, true, true, true, true, true, true, true, true, true, true, true, true, true, true, true, true, true, true, true, true, false, false, false, false, false, false, false, false, false, false, false, false] rfl rfl (any_of HT_.out (by kernel_rfl)) (fun _ _ _ h => h) (Or.inl ⟨by rfl, ?_⟩) ?_ ?_
                                    rotate_left
                                    · intro w'
                                      go_simp
                                      with_reducible rfl
                                    rotate_left
                                    · simp only [Act.put, List.setIfInBounds_toArray, List.set_cons_zero, List.set_cons_succ, i64_w, i32_w]
                                      rfl
                                    refine take_ (i := 51) (N := some 142) (v := ?_) (a' := ?_) #[true, true, true, true, true, true, true, true, true, true, true, true, true, true, true, true, true, true, true, true, true, true, true, true, true, true, true, true, true, true, true, true, true, true, true, true, true, true, true, true, true, true, true, true, true, true, true, true, true, true, true, true, false, false, false, false, false, false, false, false, false, false, false] rfl rfl (take_ofW HT_.out HW_.out (by kernel_rfl)) (fun _ _ _ h => h) (Or.inl ⟨by rfl, ?_⟩) hHeld ?_ ?_
                                    rotate_left
                                    · rintro w' ⟨s0, s1, s2, s3, s4, s5, s6, s7, s8, s9, s10, s11, s12, s13, s14, s15, s16, s17⟩
                                      go_simp
                                      with_reducible rfl
                                    rotate_left
                                    · simp only [Act.put, List.setIfInBounds_toArray, List.set_cons_zero, List.set_cons_succ, i64_w, i32_w]
                                      rfl
                                    refine take_ (i := 52) (N := some 143) (v := ?_) (a' := ?_) #[true, true, true, true, true, true, true, true, true, true, true, true, true, true, true, true, true, true, true, true, true, true, true, true, true, true, true, true, true, true, true, true, true, true, true, true, true, true, true, true, true, true, true, true, true, true, true, true, true, true, true, true, true, false, false, false, false, false, false, false, false, false, false] rfl rfl (take_ofW HT_.out HW_.out (by kernel_rfl)) (fun _ _ _ h => h) (Or.inl ⟨by rfl, ?_⟩) hHeld ?_ ?_
                                    rotate_left
                                    · rintro w' ⟨s0, s1, s2, s3, s4, s5, s6, s7, s8, s9, s10, s11, s12, s13, s14, s15, s16, s17⟩
                                      go_simp
                                      with_reducible rfl
                                    rotate_left
                                    · simp only [Act.put, List.setIfInBounds_toArray, List.set_cons_zero, List.set_cons_succ, i64_w, i32_w]
                                      rfl
                                    refine take_ (i := 54) (N := some 145) (v := ?_) (a' := ?_) #[true, true, true, true, true, true, true, true, true, true, true, true, true, true, true, true, true, true, true, true, true, true, true, true, true, true, true, true, true, true, true, true, true, true, true, true, true, true, true, true, true, true, true, true, true, true, true, true, true, true, true, true, true, false, true, false, false, false, false, false, false, false, false] rfl rfl (take_ofW HT_.out HW_.out (by kernel_rfl)) (fun _ _ _ h => h) (Or.inl ⟨by rfl, ?_⟩) hHeld ?_ ?_
                                    rotate_left
                                    · rintro w' ⟨s0, s1, s2, s3, s4, s5, s6, s7, s8, s9, s10, s11, s12, s13, s14, s15, s16, s17⟩
                                      go_simp
                                      with_reducible rfl
                                    rotate_left
                                    · simp only [Act.put, List.setIfInBounds_toArray, List.set_cons_zero, List.set_cons_succ, i64_w, i32_w]
                                      rfl
                                    refine take_ (i := 55) (N := some 146) (v := ?_) (a' := ?_) #[true, true, true, true, true, true, true, true, true, true, true, true, true, true, true, true, true, true, true, true, true, true, true, true, true, true, true, true, true, true, true, true, true, true, true, true, true, true, true, true, true, true, true, true, true, true, true, true, true, true, true, true, true, false, true, true, false, false, false, false, false, false, false] rfl rfl (take_ofW HT_.out HW_.out (by kernel_rfl)) (fun _ _ _ h => h) (Or.inl ⟨by rfl, ?_⟩) hHeld ?_ ?_
                                    rotate_left
                                    · rintro w' ⟨s0, s1, s2, s3, s4, s5, s6, s7, s8, s9, s10, s11, s12, s13, s14, s15, s16, s17⟩
                                      go_simp
                                      with_reducible rfl
                                    rotate_left
                                    · simp only [Act.put, List.setIfInBounds_toArray, List.set_cons_zero, List.set_cons_succ, i64_w, i32_w]
                                      rfl
                                    refine one_ (i := 53) (N := some 144) #[true, true, true, true, true, true, true, true, true, true, true, true, true, true, true, true, true, true, true, true, true, true, true, true, true, true, true, true, true, true, true, true, true, true, true, true, true, true, true, true, true, true, true, true, true, true, true, true, true, true, true, true, true, true, true, true, false, false, false, false, false, false, false] rfl rfl (one_of HT_.out (by kernel_rfl)) (by decide) (fun K hK => ?_)
                                    refine goes_ Try.func16 (by kernel_rfl) rfl #[.agg #[.string t268, .string t269, .string t270, .string t271, .string t272, .string t273], .agg #[.string x276000_11, .string x276001_11, .string x276002_11, .string x276003_11, .string x276004_11, .string x276005_11]] (by rfl) rfl rfl (by (try simp only [List.map_toArray, List.map_cons, List.map_nil]); first | done | rfl | (simp only [List.length_drop, List.length_take]; rfl)) ?_
                                    with_reducible refine (tupl_Less.calls kj11 t268 t269 t270 t271 t272 t273 x276000_11 x276001_11 x276002_11 x276003_11 x276004_11 x276005_11 t294 _ A71.out).mono ?_
                                    rintro e w94 ⟨rfl, hb⟩
                                    refine ⟨_, rfl, ?_⟩
                                    have n0_ := Aside0.mk (blk_below (g := gb274) (o := .cells #[.string t268, .string t269, .string t270, .string t271, .string t272, .string t273] 29 (0, 0)) (by (with_reducible repeat (first | refine blk_drewN ?_ _ | refine blk_drew ?_ | refine blk_alloc ?_ _)); exact BK274.out) hb)
                                    have n1_ := Aside0.mk (blk_below (g := gb275) (o := .cells #[.string x276000_11, .string x276001_11, .string x276002_11, .string x276003_11, .string x276004_11, .string x276005_11] 29 (0, 0)) (by (with_reducible repeat (first | refine blk_drewN ?_ _ | refine blk_drew ?_ | refine blk_alloc ?_ _)); exact BK275.out) hb)
                                    have n2_ := Aside0.mk (blk_below (g := gb284) (o := .cells #[.string t277, .string t278, .string t279, .string t280, .string t281, .string t282] 29 (0, 0)) (by (with_reducible repeat (first | refine blk_drewN ?_ _ | refine blk_drew ?_ | refine blk_alloc ?_ _)); exact BK284.out) hb)
                                    have n3_ := Aside0.mk (below_step (by repeat (first | (with_reducible first | exact HB.out | apply below_alloc | apply pw_below_drewN | apply below_drew1 | refine below_set ?_ GE274.out | refine below_set ?_ GE275.out | refine below_set ?_ GE284.out) | exact HB.out)) hb)
                                    clear BK274
                                    clear BK275
                                    clear BK284
                                    clear HB
                                    have BK274 := n0_
                                    have BK275 := n1_
                                    have BK284 := n2_
                                    have HB := n3_
                                    clear n0_ n1_ n2_ n3_
                                    (try clear hb)
                                    (try clear hb2)
                                    (try clear hk)
                                    (try clear hi)
                                    refine hK.out _ _ ⟨(blk_cell BK274.out 0).trans rfl, (blk_cell BK274.out 1).trans rfl, (blk_cell BK274.out 2).trans rfl, (blk_cell BK274.out 3).trans rfl, (blk_cell BK274.out 4).trans rfl, (blk_cell BK274.out 5).trans rfl, (blk_cell BK275.out 0).trans rfl, (blk_cell BK275.out 1).trans rfl, (blk_cell BK275.out 2).trans rfl, (blk_cell BK275.out 3).trans rfl, (blk_cell BK275.out 4).trans rfl, (blk_cell BK275.out 5).trans rfl, (blk_cell BK284.out 0).trans rfl, (blk_cell BK284.out 1).trans rfl, (blk_cell BK284.out 2).trans rfl, (blk_cell BK284.out 3).trans rfl, (blk_cell BK284.out 4).trans rfl, (blk_cell BK284.out 5).trans rfl⟩ (fun hHeld => ?_)
                                    clear hK K
                                    refine norm_ (a' := ?_) ?_ ?_
                                    rotate_left
                                    · show Act.put _ (some 144) _ = _
                                      simp only [Act.put, List.setIfInBounds_toArray, List.set_cons_zero, List.set_cons_succ, i64_w, i32_w]
                                      rfl
                                    refine one_ (i := 56) (N := some 147) #[true, true, true, true, true, true, true, true, true, true, true, true, true, true, true, true, true, true, true, true, true, true, true, true, true, true, true, true, true, true, true, true, true, true, true, true, true, true, true, true, true, true, true, true, true, true, true, true, true, true, true, true, true, true, true, true, true, false, false, false, false, false, false] rfl rfl (one_of HT_.out (by kernel_rfl)) (by decide) (fun K hK => ?_)
                                    refine goes_ Try.func16 (by kernel_rfl) rfl #[.agg #[.string x276000_11, .string x276001_11, .string x276002_11, .string x276003_11, .string x276004_11, .string x276005_11], .agg #[.string t268, .string t269, .string t270, .string t271, .string t272, .string t273]] (by rfl) rfl rfl (by (try simp only [List.map_toArray, List.map_cons, List.map_nil]); first | done | rfl | (simp only [List.length_drop, List.length_take]; rfl)) ?_
                                    with_reducible refine (tupl_Less.calls kj11 x276000_11 x276001_11 x276002_11 x276003_11 x276004_11 x276005_11 t268 t269 t270 t271 t272 t273 t295 _ A72.out).mono ?_
                                    rintro e w95 ⟨rfl, hb⟩
                                    refine ⟨_, rfl, ?_⟩
                                    have n0_ := Aside0.mk (blk_below (g := gb274) (o := .cells #[.string t268, .string t269, .string t270, .string t271, .string t272, .string t273] 29 (0, 0)) (by (with_reducible repeat (first | refine blk_drewN ?_ _ | refine blk_drew ?_ | refine blk_alloc ?_ _)); exact BK274.out) hb)
                                    have n1_ := Aside0.mk (blk_below (g := gb275) (o := .cells #[.string x276000_11, .string x276001_11, .string x276002_11, .string x276003_11, .string x276004_11, .string x276005_11] 29 (0, 0)) (by (with_reducible repeat (first | refine blk_drewN ?_ _ | refine blk_drew ?_ | refine blk_alloc ?_ _)); exact BK275.out) hb)
                                    have n2_ := Aside0.mk (blk_below (g := gb284) (o := .cells #[.string t277, .string t278, .string t279, .string t280, .string t281, .string t282] 29 (0, 0)) (by (with_reducible repeat (first | refine blk_drewN ?_ _ | refine blk_drew ?_ | refine blk_alloc ?_ _)); exact BK284.out) hb)
                                    have n3_ := Aside0.mk (below_step (by repeat (first | (with_reducible first | exact HB.out | apply below_alloc | apply pw_below_drewN | apply below_drew1 | refine below_set ?_ GE274.out | refine below_set ?_ GE275.out | refine below_set ?_ GE284.out) | exact HB.out)) hb)
                                    clear BK274
                                    clear BK275
                                    clear BK284
                                    clear HB
                                    have BK274 := n0_
                                    have BK275 := n1_
                                    have BK284 := n2_
                                    have HB := n3_
                                    clear n0_ n1_ n2_ n3_
                                    (try clear hb)
                                    (try clear hb2)
                                    (try clear hk)
                                    (try clear hi)
                                    refine hK.out _ _ ⟨(blk_cell BK274.out 0).trans rfl, (blk_cell BK274.out 1).trans rfl, (blk_cell BK274.out 2).trans rfl, (blk_cell BK274.out 3).trans rfl, (blk_cell BK274.out 4).trans rfl, (blk_cell BK274.out 5).trans rfl, (blk_cell BK275.out 0).trans rfl, (blk_cell BK275.out 1).trans rfl, (blk_cell BK275.out 2).trans rfl, (blk_cell BK275.out 3).trans rfl, (blk_cell BK275.out 4).trans rfl, (blk_cell BK275.out 5).trans rfl, (blk_cell BK284.out 0).trans rfl, (blk_cell BK284.out 1).trans rfl, (blk_cell BK284.out 2).trans rfl, (blk_cell BK284.out 3).trans rfl, (blk_cell BK284.out 4).trans rfl, (blk_cell BK284.out 5).trans rfl⟩ (fun hHeld => ?_)
                                    clear hK K
                                    refine norm_ (a' := ?_) ?_ ?_
                                    rotate_left
                                    · show Act.put _ (some 147) _ = _
                                      simp only [Act.put, List.setIfInBounds_toArray, List.set_cons_zero, List.set_cons_succ, i64_w, i32_w]
                                      rfl
                                    refine pure_ (i := 57) (N := some 148) (v := ?_) (a' := ?_) #[true, true, true, true, true, true, true, true, true, true, true, true, true, true, true, true, true, true, true, true, true, true, true, true, true, true, true, true, true, true, true, true, true, true, true, true, true, true, true, true, true, true, true, true, true, true, true, true, true, true, true, true, true, true, true, true, true, true, false, false, false, false, false] rfl rfl (any_of HT_.out (by kernel_rfl)) (fun _ _ _ h => h) (Or.inl ⟨by rfl, ?_⟩) ?_ ?_
                                    rotate_left
                                    · intro w'
                                      go_simp
                                      with_reducible rfl
                                    rotate_left
                                    · simp only [Act.put, List.setIfInBounds_toArray, List.set_cons_zero, List.set_cons_succ, i64_w, i32_w]
                                      rfl
                                    refine pure_ (i := 58) (N := some 149) (v := ?_) (a' := ?_) #[true, true, true, true, true, true, true, true, true, true, true, true, true, true, true, true, true, true, true, true, true, true, true, true, true, true, true, true, true, true, true, true, true, true, true, true, true, true, true, true, true, true, true, true, true, true, true, true, true, true, true, true, true, true, true, true, true, true, true, false, false, false, false] rfl rfl (any_of HT_.out (by kernel_rfl)) (fun _ _ _ h => h) (Or.inl ⟨by rfl, ?_⟩) ?_ ?_
                                    rotate_left
                                    · intro w'
                                      go_simp
                                      with_reducible rfl
                                    rotate_left
                                    · simp only [Act.put, List.setIfInBounds_toArray, List.set_cons_zero, List.set_cons_succ, i64_w, i32_w]
                                      rfl
                                    refine pure_ (i := 59) (N := some 150) (v := ?_) (a' := ?_) #[true, true, true, true, true, true, true, true, true, true, true, true, true, true, true, true, true, true, true, true, true, true, true, true, true, true, true, true, true, true, true, true, true, true, true, true, true, true, true, true, true, true, true, true, true, true, true, true, true, true, true, true, true, true, true, true, true, true, true, true, false, false, false] rfl rfl (any_of HT_.out (by kernel_rfl)) (fun _ _ _ h => h) (Or.inl ⟨by rfl, ?_⟩) ?_ ?_
                                    rotate_left
                                    · intro w'
                                      go_simp
                                      with_reducible rfl
                                    rotate_left
                                    · simp only [Act.put, List.setIfInBounds_toArray, List.set_cons_zero, List.set_cons_succ, i64_w, i32_w]
                                      rfl
                                    refine one_ (i := 60) (N := some 151) #[true, true, true, true, true, true, true, true, true, true, true, true, true, true, true, true, true, true, true, true, true, true, true, true, true, true, true, true, true, true, true, true, true, true, true, true, true, true, true, true, true, true, true, true, true, true, true, true, true, true, true, true, true, true, true, true, true, true, true, true, true, false, false] rfl rfl (one_of HT_.out (by kernel_rfl)) (by decide) (fun K hK => ?_)
                                    refine goes_ Try.func14 (by kernel_rfl) rfl #[] (by rfl) rfl rfl (by (try simp only [List.map_toArray, List.map_cons, List.map_nil]); first | done | rfl | (simp only [List.length_drop, List.length_take]; rfl)) ?_
                                    with_reducible refine (entaillaw2_awake.calls kj11  t296 _ A74.out).mono ?_
                                    rintro e w96 ⟨rfl, hb⟩
                                    refine ⟨_, rfl, ?_⟩
                                    have n0_ := Aside0.mk (blk_below (g := gb274) (o := .cells #[.string t268, .string t269, .string t270, .string t271, .string t272, .string t273] 29 (0, 0)) (by (with_reducible repeat (first | refine blk_drewN ?_ _ | refine blk_drew ?_ | refine blk_alloc ?_ _)); exact BK274.out) hb)
                                    have n1_ := Aside0.mk (blk_below (g := gb275) (o := .cells #[.string x276000_11, .string x276001_11, .string x276002_11, .string x276003_11, .string x276004_11, .string x276005_11] 29 (0, 0)) (by (with_reducible repeat (first | refine blk_drewN ?_ _ | refine blk_drew ?_ | refine blk_alloc ?_ _)); exact BK275.out) hb)
                                    have n2_ := Aside0.mk (blk_below (g := gb284) (o := .cells #[.string t277, .string t278, .string t279, .string t280, .string t281, .string t282] 29 (0, 0)) (by (with_reducible repeat (first | refine blk_drewN ?_ _ | refine blk_drew ?_ | refine blk_alloc ?_ _)); exact BK284.out) hb)
                                    have n3_ := Aside0.mk (below_step (by repeat (first | (with_reducible first | exact HB.out | apply below_alloc | apply pw_below_drewN | apply below_drew1 | refine below_set ?_ GE274.out | refine below_set ?_ GE275.out | refine below_set ?_ GE284.out) | exact HB.out)) hb)
                                    clear BK274
                                    clear BK275
                                    clear BK284
                                    clear HB
                                    have BK274 := n0_
                                    have BK275 := n1_
                                    have BK284 := n2_
                                    have HB := n3_
                                    clear n0_ n1_ n2_ n3_
                                    (try clear hb)
                                    (try clear hb2)
                                    (try clear hk)
                                    (try clear hi)
                                    refine hK.out _ _ ⟨(blk_cell BK274.out 0).trans rfl, (blk_cell BK274.out 1).trans rfl, (blk_cell BK274.out 2).trans rfl, (blk_cell BK274.out 3).trans rfl, (blk_cell BK274.out 4).trans rfl, (blk_cell BK274.out 5).trans rfl, (blk_cell BK275.out 0).trans rfl, (blk_cell BK275.out 1).trans rfl, (blk_cell BK275.out 2).trans rfl, (blk_cell BK275.out 3).trans rfl, (blk_cell BK275.out 4).trans rfl, (blk_cell BK275.out 5).trans rfl, (blk_cell BK284.out 0).trans rfl, (blk_cell BK284.out 1).trans rfl, (blk_cell BK284.out 2).trans rfl, (blk_cell BK284.out 3).trans rfl, (blk_cell BK284.out 4).trans rfl, (blk_cell BK284.out 5).trans rfl⟩ (fun hHeld => ?_)
                                    clear hK K
                                    refine norm_ (a' := ?_) ?_ ?_
                                    rotate_left
                                    · show Act.put _ (some 151) _ = _
                                      simp only [Act.put, List.setIfInBounds_toArray, List.set_cons_zero, List.set_cons_succ, i64_w, i32_w]
                                      rfl
                                    refine pure_ (i := 61) (N := some 152) (v := ?_) (a' := ?_) #[true, true, true, true, true, true, true, true, true, true, true, true, true, true, true, true, true, true, true, true, true, true, true, true, true, true, true, true, true, true, true, true, true, true, true, true, true, true, true, true, true, true, true, true, true, true, true, true, true, true, true, true, true, true, true, true, true, true, true, true, true, true, false] rfl rfl (any_of HT_.out (by kernel_rfl)) (fun _ _ _ h => h) (Or.inl ⟨by rfl, ?_⟩) ?_ ?_
                                    rotate_left
                                    · intro w'
                                      go_simp
                                      with_reducible rfl
                                    rotate_left
                                    · simp only [Act.put, List.setIfInBounds_toArray, List.set_cons_zero, List.set_cons_succ, i64_w, i32_w]
                                      rfl
                                    refine pure_ (i := 62) (N := some 10) (v := ?_) (a' := ?_) #[true, true, true, true, true, true, true, true, true, true, true, true, true, true, true, true, true, true, true, true, true, true, true, true, true, true, true, true, true, true, true, true, true, true, true, true, true, true, true, true, true, true, true, true, true, true, true, true, true, true, true, true, true, true, true, true, true, true, true, true, true, true, true] rfl rfl (any_of HT_.out (by kernel_rfl)) (fun _ _ _ h => h) (Or.inl ⟨by rfl, ?_⟩) ?_ ?_
                                    rotate_left
                                    · intro w'
                                      go_simp
                                      with_reducible rfl
                                    rotate_left
                                    · simp only [Act.put, List.setIfInBounds_toArray, List.set_cons_zero, List.set_cons_succ, i64_w, i32_w]
                                      rfl
                                    refine done_ (done_of HT_.out (by kernel_rfl)) ?_
                                    try go_wp2
                                    go_ret
                                    exact ⟨by first | rfl | (simp [errW_none, errW_some] <;> rfl) | (simp [*, errW_none, errW_some] <;> rfl), by repeat (first | (with_reducible first | exact HB.out | apply below_alloc | apply pw_below_drewN | apply below_drew1 | refine below_set ?_ GE274.out | refine below_set ?_ GE275.out | refine below_set ?_ GE284.out) | exact HB.out)⟩
                                  · rw [if_neg c73] at H
                                    have c73b0 : (t294 != t295) = false := by simpa using c73
                                    (try (have c73b1 : decide (t294 = t295) = true := by simpa using c73))
                                    (try (have c73b2 : (t294 == t295) = true := by simpa using c73))
                                    clear c73
                                    exact absurd H (by simp)
                                · rw [if_neg c70] at H
                                  have c70b0 : ((t277.toList == x276000_11.toList && (t278.toList == x276001_11.toList)) && (t279.toList == x276002_11.toList && ((t280.toList == x276003_11.toList && (t281.toList == x276004_11.toList && (t282.toList == x276005_11.toList)))))) = false := by simpa using c70
                                  clear c70
                                  exact absurd H (by simp)
                              · replace c69 := Bool.eq_false_iff.mpr c69
                                subst c69
                                have H1 : (none) = some r := by rw [if_neg (show ¬ (false = true) by decide)] at H; exact H
                                clear H
                                have H := H1
                                clear H1
                                exact absurd H (by simp)
                          · rw [if_neg c65] at H
                            have c65b0 : (t285.toList == ((((((((((t286 ++ (⟨#[58]⟩ : ByteArray)) ++ t287) ++ (⟨#[35]⟩ : ByteArray)) ++ t288) ++ (⟨#[64]⟩ : ByteArray)) ++ t289) ++ (⟨#[58]⟩ : ByteArray)) ++ t290) ++ (⟨#[35]⟩ : ByteArray)) ++ t291).toList) = false := beq_eq_false_iff_ne.mpr c65
                            have c65b1 : (t285.toList != ((((((((((t286 ++ (⟨#[58]⟩ : ByteArray)) ++ t287) ++ (⟨#[35]⟩ : ByteArray)) ++ t288) ++ (⟨#[64]⟩ : ByteArray)) ++ t289) ++ (⟨#[58]⟩ : ByteArray)) ++ t290) ++ (⟨#[35]⟩ : ByteArray)) ++ t291).toList) = true := bne_iff_ne.mpr c65
                            exact absurd H (by simp)
                        · rw [if_neg c64] at H
                          exact absurd H (by simp)
                      · rw [if_neg c62] at H
                        exact absurd H (by simp)
                    · rw [if_neg c61] at H
                      exact absurd H (by simp)
                  · rw [if_neg c59] at H
                    exact absurd H (by simp)
                · rw [if_neg c58] at H
                  exact absurd H (by simp)
              · rw [if_neg c56] at H
                exact absurd H (by simp)
            · rw [if_neg c55] at H
              exact absurd H (by simp)
          · rw [if_neg c53] at H
            exact absurd H (by simp)
        · rw [if_neg c52] at H
          exact absurd H (by simp)
      · rw [if_neg c50] at H
        exact absurd H (by simp)

/-- THE ONE PURE STATEMENT of entaillaw2_TuplParts: yours. -/
def entaillaw2_TuplParts.Pure : Prop := ∀ (a0 : Int) (a1 : Int) (a2 : Int) (a3 : Int) (a4 : Int), (Lit.int .i64 a0).wf = true → (Lit.int .i64 a1).wf = true → (Lit.int .i64 a2).wf = true → (Lit.int .i64 a3).wf = true → (Lit.int .i64 a4).wf = true → ∃ k, entaillaw2_TuplParts.f k a0 a1 a2 a3 a4 = some true
theorem entaillaw2_TuplParts.walk (P : entaillaw2_TuplParts.Pure) (a0 : Int) (a1 : Int) (a2 : Int) (a3 : Int) (a4 : Int) (w : World) (w0 : (Lit.int .i64 a0).wf = true) (w1 : (Lit.int .i64 a1).wf = true) (w2 : (Lit.int .i64 a2).wf = true) (w3 : (Lit.int .i64 a3).wf = true) (w4 : (Lit.int .i64 a4).wf = true) :
    Calls Try.prog 4 #[.int .i64 a0, .int .i64 a1, .int .i64 a2, .int .i64 a3, .int .i64 a4] w fun e w' => e = .returned (.bool true) ∧ Below w.heap.size w w' := by
  obtain ⟨k, h⟩ := P a0 a1 a2 a3 a4 w0 w1 w2 w3 w4
  refine (entaillaw2_TuplParts.calls k a0 a1 a2 a3 a4 true w h).mono ?_
  rintro e w' ⟨rfl, hd⟩
  exact ⟨rfl, hd⟩

end Go.Proofs.Ytjmlloiolppoiaa.P
