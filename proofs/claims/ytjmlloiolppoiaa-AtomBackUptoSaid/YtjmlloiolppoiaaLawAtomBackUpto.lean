/- What is joined of a name is split into it and the rest; ids of two tenants are never the same: for all arguments that hold together at most 1048576 values and letters. -/
import Derived.Test.YtjmlloiolppoiaaRows
import Derived.Test.YtjmlloiolppoiaaPureAtomBack
import Derived.JoinedCond
import Derived.Test.YtjmlloiolppoiaaStrs
import Derived.WalkKit
import Derived.ProofKit
import Derived.OpenShut
import Derived.ShutString
import Derived.ChangeOld
import Derived.Below
import Derived.SizedLaws
namespace Go.Proofs.Ytjmlloiolppoiaa.atomBackUpto
open Go.ChangeShapes Go.WideShapes Go.ChangeAt Go.RowKit
open Go.ChangeMaps (open_string shut_string)
set_option linter.unusedVariables false
theorem own : ownKnob Try.prog.godebug = none := by kernel_rfl
theorem laidOut : laidOutB Try.prog = true := by kernel_rfl
/-- the bulk of a row of values -/
theorem bulk_le {H : Type} {d : DataW H} {l : List (DataW H)} (h : d ∈ l) : Rows.uptoBulk d ≤ Rows.uptoBulkAll l := by
  induction l with
  | nil => cases h
  | cons x r ih =>
    simp only [Rows.uptoBulkAll]
    cases List.mem_cons.1 h with
    | inl e => subst e; omega
    | inr e => have := ih e; omega
theorem bulk_strs {H : Type} : ∀ (l : List ByteArray), ((l.map Base.A).map List.length).sum + l.length ≤ Rows.uptoBulkAll (H := H) (strs l)
  | [] => by simp [strs, Rows.uptoBulkAll]
  | x :: l => by
    have ih := bulk_strs (H := H) l
    simp only [strs, List.map_cons, List.sum_cons, List.length_cons, Rows.uptoBulkAll, Rows.uptoBulk] at ih ⊢
    have : (Base.A x).length = x.data.toList.length := rfl
    omega
theorem glue_bulk (l : List ByteArray) : (Atom.glueL l ⟨#[47]⟩).length ≤ ((l.map Base.A).map List.length).sum + l.length := by
  cases l with
  | nil => rw [Atom.glueL, List.map_nil, Lib.join_nil]; simp
  | cons x r =>
    simp only [Atom.glueL, List.map_cons, Lib.join_cons, List.length_append, List.sum_cons, List.length_cons]
    have ht : ∀ r : List ByteArray, (Lib.joinTail (Base.A ⟨#[47]⟩) (r.map Base.A)).length = ((r.map Base.A).map List.length).sum + r.length := by
      intro r
      induction r with
      | nil => rfl
      | cons y r ih =>
        simp only [Lib.joinTail, List.map_cons, List.flatten_cons, List.length_append, List.sum_cons, List.length_cons] at ih ⊢
        rw [ih]
        have e1 : (Base.A ⟨#[47]⟩).length = 1 := rfl
        omega
    rw [ht r]
    omega

/-- What the walk gives, under the bound. -/
theorem contract (H : Type) (enc : TypeId × Value → H) (W : World) (base : Nat) (args : Array Value) (ds gs : List (DataW H)) (before : List MemPlace)
    (hval0 : ∀ (j : Nat) t v, Try.f10.params[j]? = some t → args[j]? = some v → Value.okWide Try.prog W .any base t v)
    (hW : DataW.Whole enc Try.prog Try.f10.params.toList Rows.atomBackSpec.vars false W args.toList ds gs before) (hk : Rows.uptoSmall H (ds ++ gs) = true) :
    Calls Try.prog 10 args W fun e W' => ∃ v, e = .returned v ∧ Rows.atomBackSpec.post enc Try.prog Try.f10 false true false false W args v W' := by
  have hval : ∀ (j : Nat) t v, Try.f10.params[j]? = some t → args[j]? = some v → Value.okWide Try.prog W .any base t v := hval0
  have hW' := hW
  obtain ⟨p, q, hA0, hV, rfl, hfz, hnd⟩ := hW
  have hA : DataW.TrodAll enc Try.prog W 0 (fun _ => true) true Try.f10.params.toList args.toList ds p := hA0
  rw [Try.params10] at hA hval
  obtain ⟨v0, vs0, d0, ds0, p0, q0, hargs, rfl, rfl, h0, r0⟩ := trodAll_cons hA
  obtain ⟨v1, vs1, d1, ds1, p1, q1, rfl, rfl, rfl, h1, r1⟩ := trodAll_cons r0
  obtain ⟨v2, vs2, d2, ds2, p2, q2, rfl, rfl, rfl, h2, r2⟩ := trodAll_cons r1
  obtain ⟨v3, vs3, d3, ds3, p3, q3, rfl, rfl, rfl, h3, r3⟩ := trodAll_cons r2
  obtain ⟨rfl, rfl, rfl⟩ := trodAll_nil r3
  obtain rfl : args = #[v0, v1, v2, v3] := by cases args; simp_all
  obtain ⟨rfl, rfl⟩ := trodVars_none hV
  obtain ⟨a0, rfl, rfl, rfl, y0⟩ := open_string Try.underlying9 (hval 0 9 v0 rfl rfl) h0
  obtain ⟨a1, rfl, rfl, rfl, y1⟩ := open_string Try.underlying9 (hval 1 9 v1 rfl rfl) h1
  obtain ⟨a2, len2, cap2, rfl⟩ := okWide_slice Try.underlying46 (hval 2 46 v2 rfl rfl)
  obtain ⟨a3, len3, cap3, rfl⟩ := okWide_slice Try.underlying46 (hval 3 46 v3 rfl rfl)
  have k2 := h2
  have k3 := h3
  have lt2 : ∀ x ∈ p2, x.block < W.heap.size := by obtain ⟨m, hm⟩ := k2; exact DataW.trod_lt m _ _ _ hm
  have lt3 : ∀ x ∈ p3, x.block < W.heap.size := by obtain ⟨m, hm⟩ := k3; exact DataW.trod_lt m _ _ _ hm
  have hb := of_decide_eq_true hk
  have b0 := Nat.le_trans (bulk_le (H := H) (d := .lit (.string a0.data.toList)) (by simp)) hb
  have b1 := Nat.le_trans (bulk_le (H := H) (d := .lit (.string a1.data.toList)) (by simp)) hb
  have b2 := Nat.le_trans (bulk_le (H := H) (d := d2) (by simp)) hb
  have b3 := Nat.le_trans (bulk_le (H := H) (d := d3) (by simp)) hb
  simp only [Rows.uptoBulk] at b0 b1
  have s0 : a0.size = a0.data.toList.length := Lib.size_eq a0
  have s1 : a1.size = a1.data.toList.length := Lib.size_eq a1
  have shape : ∀ (d : DataW H) (l : List ByteArray), ((d = .nil ∧ l = []) ∨ ∃ more, d = .slice (strs l) more) → Rows.uptoBulk d ≤ 1048576 → (Atom.glueL l ⟨#[47]⟩).length ≤ 1048576 := by
    intro d l h hd
    rcases h with ⟨_, rfl⟩ | ⟨more, rfl⟩
    · decide
    · simp only [Rows.uptoBulk] at hd
      have := bulk_strs (H := H) l
      have := glue_bulk l
      omega
  obtain ⟨l2, t2, n2⟩ : ∃ l, Strs.IsTexts W a2 len2 cap2 l ∧ (Atom.glueL l ⟨#[47]⟩).length ≤ 1048576 := by
    obtain ⟨fuel, hf⟩ := h2
    obtain ⟨l, hl, hs⟩ := Strs.texts_of Try.underlying46 Try.underlying9 (by kernel_rfl) hf
    exact ⟨l, hl, shape d2 l hs b2⟩
  obtain ⟨l3, t3, n3⟩ : ∃ l, Strs.IsTexts W a3 len3 cap3 l ∧ (Atom.glueL l ⟨#[47]⟩).length ≤ 1048576 := by
    obtain ⟨fuel, hf⟩ := h3
    obtain ⟨l, hl, hs⟩ := Strs.texts_of Try.underlying46 Try.underlying9 (by kernel_rfl) hf
    exact ⟨l, hl, shape d3 l hs b3⟩
  obtain rfl : l2.length = len2 := t2.1
  obtain rfl : l3.length = len3 := t3.1
  obtain ⟨c2, e2⟩ := Strs.reads_texts t2
  obtain ⟨c3, e3⟩ := Strs.reads_texts t3
  obtain ⟨k, hkk⟩ := PureBack1.back a0 a1 l2 l3 (by omega) (by omega) (by omega) (by omega)
  clear hA0 hval0 hb b0 b1 b2 b3 shape hk
  refine (P.entaillaw1_AtomBack.calls k a0 a1 a2 cap2 l2 a3 cap3 l3 true W c2 e2 c3 e3 hkk).mono fun e W' ⟨he, bel⟩ => ?_
  subst he
  exact ⟨_, rfl, _, _, _, [], _, [], hW', trodAll_mk1 (shut_bool Try.underlying4 _), (trodAll_cons_mk (shut_string Try.underlying9 y0) (trodAll_cons_mk (shut_string Try.underlying9 y1) (trodAll_cons_mk (Below.trod laidOut (by kernel_rfl) (of_decide_eq_true (by kernel_rfl)) k2 bel lt2) (trodAll_cons_mk (Below.trod laidOut (by kernel_rfl) (of_decide_eq_true (by kernel_rfl)) k3 bel lt3) trodAll_mk0)))), rfl, bel.frame _, fun h => by cases h⟩

set_option maxRecDepth 100000 in
theorem lifted (os : Os) (started : os.Started) (H : Type) (enc : TypeId × Value → H) (F : Stop.Interp) :
    ReturnsInHanded {} Try.checked os 10 .any ((Rows.OpenSpec.upto Rows.atomBackSpec).pre6 enc Try.prog Try.f10 Rows.atomBackUptoRow.domain false) (((Rows.OpenSpec.upto Rows.atomBackSpec).at F).post enc Try.prog Try.f10 false true false false) := by
  refine returnsInHanded_of_cond (C := Try.checked) (s := Rows.OpenSpec.upto Rows.atomBackSpec) (k := Rows.uptoSmall) rfl own started (by kernel_rfl) Try.func10
    (OpenSpec.witness (enc := enc) (C := Try.checked) (s := Rows.OpenSpec.upto Rows.atomBackSpec) (k := Rows.uptoSmall) rfl false ⟨#[], #[.string ByteArray.empty, .string ByteArray.empty, .slice none 0 0, .slice none 0 0], []⟩ 8 (by kernel_rfl) (by kernel_rfl) (by kernel_rfl)
      (x := ([.lit (.string []), .lit (.string []), .nil, .nil], [], [])) (by kernel_rfl) rfl (by kernel_rfl)) ?_
  intro W base args ds gs before hval hW _ hk _
  exact contract H enc W base args ds gs before hval hW hk

theorem over : Rows.atomBackUptoRow.holds Try.pinned (Rows.OpenSpec.upto Rows.atomBackSpec) :=
  OpenClaim.holds_of_cond 10 Try.f10 rfl rfl rfl rfl rfl rfl rfl ⟨rfl, rfl, rfl, rfl, rfl⟩ rfl rfl rfl rfl rfl (by kernel_rfl) Try.func10 (by kernel_rfl)
    (of_decide_eq_true (by kernel_rfl)) (by unfold Func.isWrapper; first | (rw [if_pos (by decide +kernel)]; kernel_rfl) | (rw [if_neg (by decide +kernel)]; exact ⟨rfl, rfl⟩))
    (fun os started H enc _ F => lifted os started H enc F)
theorem proved : Rows.AtomBackUptoSaid := over
#print axioms proved
end Go.Proofs.Ytjmlloiolppoiaa.atomBackUpto
namespace Go.Proofs.Ytjmlloiolppoiaa
/-- The row, under a short name, for the claim. -/
theorem atomBackUpto_holds : Rows.AtomBackUptoSaid := atomBackUpto.proved
end Go.Proofs.Ytjmlloiolppoiaa
