/-
  No cell of these rows narrows 'for every input' (looked for: loops, veiled, ifaces, maps, wideKeys, modest, calm, conditions, laid).
  DERIVED. THE GIVEN ROWS OF THIS SEAT. 4 by the template 'for every input the law returns true; each argument reads behind the call as it read before'; 0 by the template 'total and deterministic' (their statements: YtjgjcbhkalcjoaaTotals.lean).
  GIVEN WITH THE SEED: the statements are not yours to turn. If you find one false, say at which input.
  Laid BY PROGRAM, IN A SANDBOX (cutbox-rows.mjs): the forced cells as the released guide's own fill.sh prints them over the translation b741087bec731ce8… (all of the seat's roots in one cut). By AI agents, Wed Nov 11 2026. No macro, syntax, notation, axiom, sorry.
-/
import Derived.Test.YtjgjcbhkalcjoaaChecked
import GoSem.Claim
import GoSem.ClaimJoined
import GoSem.ClaimMapViews
import Derived.JoinedTies
import Derived.KernelRfl
namespace Go.Proofs.Ytjgjcbhkalcjoaa
/- THE CELL 'sum', in the pinned program and in every row, IS THE sha256 OF THE DUMP (.gsa) THAT YtjgjcbhkalcjoaaProg.lean LOADS. Nothing in Lean hashes anything: it is a label: what it is worth is what the hold of that sum in a sandbox is worth. -/
noncomputable def Try.pinned : Pinned := { name := "ytjgjcbhkalcjoaa", sum := "b741087bec731ce8e7d3dc4c94438d5c1b7b72c02e023f31115df44b71d3f7b6", checked := Try.checked }
namespace Rows
def none {H : Type} : Left H := { results := [], args := [] }

/-- 'entaillaw6.TokeLong': WHATEVER THE INPUT: true; the input reads as it did. -/
def tokeLongSpec : ChangeSpec := { name := "tokeLong", fn := fun _ => fun
  | [d1, d2, d3] => { results := [.lit (.bool true)], args := [d1, d2, d3] }
  | _ => none }
def tokeLongRow : OpenClaim := { program := "ytjgjcbhkalcjoaa", sum := "b741087bec731ce8e7d3dc4c94438d5c1b7b72c02e023f31115df44b71d3f7b6", func := "entail/entaillaw6.TokeLong", spec := "tokeLong", inPlace := ["internal/bytealg.IndexByteString", "internal/bytealg.IndexString"], named := ["internal/bytealg.MaxLen"], apart := false }
def TokeLongSaid : Prop := tokeLongRow.holds Try.pinned (OpenSpec.ofChange tokeLongSpec)

/-- ITS FALSE NEIGHBOUR: 'it returns false'. Refute it at one input. -/
def tokeLongWrong : ChangeSpec := { name := "tokeLong", fn := fun _ => fun
  | [d1, d2, d3] => { results := [.lit (.bool false)], args := [d1, d2, d3] }
  | _ => none }
def TokeLongWrongFalsely : Prop := tokeLongRow.holds Try.pinned (OpenSpec.ofChange tokeLongWrong)

/-- 'entaillaw6.TokeTells': WHATEVER THE INPUT: true; the input reads as it did. -/
def tokeTellsSpec : ChangeSpec := { name := "tokeTells", fn := fun _ => fun
  | [d] => { results := [.lit (.bool true)], args := [d] }
  | _ => none }
def tokeTellsRow : OpenClaim := { program := "ytjgjcbhkalcjoaa", sum := "b741087bec731ce8e7d3dc4c94438d5c1b7b72c02e023f31115df44b71d3f7b6", func := "entail/entaillaw6.TokeTells", spec := "tokeTells", inPlace := ["internal/bytealg.IndexByteString", "internal/bytealg.IndexString"], named := ["internal/bytealg.MaxLen"], apart := false }
def TokeTellsSaid : Prop := tokeTellsRow.holds Try.pinned (OpenSpec.ofChange tokeTellsSpec)

/-- ITS FALSE NEIGHBOUR: 'it returns false'. Refute it at one input. -/
def tokeTellsWrong : ChangeSpec := { name := "tokeTells", fn := fun _ => fun
  | [d] => { results := [.lit (.bool false)], args := [d] }
  | _ => none }
def TokeTellsWrongFalsely : Prop := tokeTellsRow.holds Try.pinned (OpenSpec.ofChange tokeTellsWrong)

/-- 'entaillaw6.TokeParts': WHATEVER THE INPUT: true; the input reads as it did. -/
def tokePartsSpec : ChangeSpec := { name := "tokeParts", fn := fun _ => fun
  | [d1, d2] => { results := [.lit (.bool true)], args := [d1, d2] }
  | _ => none }
def tokePartsRow : OpenClaim := { program := "ytjgjcbhkalcjoaa", sum := "b741087bec731ce8e7d3dc4c94438d5c1b7b72c02e023f31115df44b71d3f7b6", func := "entail/entaillaw6.TokeParts", spec := "tokeParts", inPlace := ["internal/bytealg.IndexByteString", "internal/bytealg.IndexString"], named := ["internal/bytealg.MaxLen"], apart := false }
def TokePartsSaid : Prop := tokePartsRow.holds Try.pinned (OpenSpec.ofChange tokePartsSpec)

/-- ITS FALSE NEIGHBOUR: 'it returns false'. Refute it at one input. -/
def tokePartsWrong : ChangeSpec := { name := "tokeParts", fn := fun _ => fun
  | [d1, d2] => { results := [.lit (.bool false)], args := [d1, d2] }
  | _ => none }
def TokePartsWrongFalsely : Prop := tokePartsRow.holds Try.pinned (OpenSpec.ofChange tokePartsWrong)

/-- 'entaillaw6.TokeBytes': WHATEVER THE INPUT: true; the input reads as it did. -/
def tokeBytesSpec : ChangeSpec := { name := "tokeBytes", fn := fun _ => fun
  | [d1, d2, d3] => { results := [.lit (.bool true)], args := [d1, d2, d3] }
  | _ => none }
def tokeBytesRow : OpenClaim := { program := "ytjgjcbhkalcjoaa", sum := "b741087bec731ce8e7d3dc4c94438d5c1b7b72c02e023f31115df44b71d3f7b6", func := "entail/entaillaw6.TokeBytes", spec := "tokeBytes", inPlace := ["internal/bytealg.IndexByteString", "internal/bytealg.IndexString"], named := ["internal/bytealg.MaxLen"], apart := false }
def TokeBytesSaid : Prop := tokeBytesRow.holds Try.pinned (OpenSpec.ofChange tokeBytesSpec)

/-- ITS FALSE NEIGHBOUR: 'it returns false'. Refute it at one input. -/
def tokeBytesWrong : ChangeSpec := { name := "tokeBytes", fn := fun _ => fun
  | [d1, d2, d3] => { results := [.lit (.bool false)], args := [d1, d2, d3] }
  | _ => none }
def TokeBytesWrongFalsely : Prop := tokeBytesRow.holds Try.pinned (OpenSpec.ofChange tokeBytesWrong)

/- THE SECOND FORM. 'bulk': how many values and letters a reading holds, each counted each time it is reached (what is shared counts as often as it is met; a slice's spare places count too). A statement '..UptoSaid' is the law's where the arguments, and the package variables that the reading takes, are together of bulk at most 1048576: NARROWER than '..Said'. Prove '..Said' where nothing that the law and all that it calls make is longer than what came in: it says more and counts as full. Else prove '..UptoSaid'. A law counts once. -/
mutual
def uptoBulk {H : Type} : DataW H → Nat
  | .lit (.string bytes) => bytes.length + 1
  | .lit _ => 1
  | .nil => 1
  | .ptr d => uptoBulk d + 1
  | .slice elems spare => uptoBulkAll elems + uptoBulkAll spare + 1
  | .agg parts => uptoBulkAll parts + 1
  | .iface _ d => uptoBulk d + 1
  | .map entries => uptoBulkEntries entries + 1
  | .held _ => 1
def uptoBulkAll {H : Type} : List (DataW H) → Nat
  | [] => 0
  | d :: r => uptoBulk d + uptoBulkAll r
def uptoBulkEntries {H : Type} : List (Lit × DataW H) → Nat
  | [] => 0
  | x :: r => uptoBulkEntry x + uptoBulkEntries r
def uptoBulkEntry {H : Type} : Lit × DataW H → Nat
  | (.string bytes, d) => bytes.length + uptoBulk d + 1
  | (_, d) => uptoBulk d + 1
 end
def uptoSmall : (H : Type) → List (DataW H) → Bool := fun _ ds => decide (uptoBulkAll ds ≤ 1048576)
def OpenSpec.upto (s : _root_.Go.ChangeSpec) : _root_.Go.OpenSpec := { _root_.Go.OpenSpec.ofChange s with cond := some uptoSmall }

/-- 'entaillaw6.TokeLong', WHERE WHAT IT READS IS OF BULK AT MOST 1048576: true; the input reads as it did. -/
def tokeLongUptoRow : OpenClaim := { program := "ytjgjcbhkalcjoaa", sum := "b741087bec731ce8e7d3dc4c94438d5c1b7b72c02e023f31115df44b71d3f7b6", func := "entail/entaillaw6.TokeLong", spec := "tokeLong", inPlace := ["internal/bytealg.IndexByteString", "internal/bytealg.IndexString"], named := ["internal/bytealg.MaxLen"], apart := false, narrowed := true }
def TokeLongUptoSaid : Prop := tokeLongUptoRow.holds Try.pinned (OpenSpec.upto tokeLongSpec)

/-- 'entaillaw6.TokeTells', WHERE WHAT IT READS IS OF BULK AT MOST 1048576: true; the input reads as it did. -/
def tokeTellsUptoRow : OpenClaim := { program := "ytjgjcbhkalcjoaa", sum := "b741087bec731ce8e7d3dc4c94438d5c1b7b72c02e023f31115df44b71d3f7b6", func := "entail/entaillaw6.TokeTells", spec := "tokeTells", inPlace := ["internal/bytealg.IndexByteString", "internal/bytealg.IndexString"], named := ["internal/bytealg.MaxLen"], apart := false, narrowed := true }
def TokeTellsUptoSaid : Prop := tokeTellsUptoRow.holds Try.pinned (OpenSpec.upto tokeTellsSpec)

/-- 'entaillaw6.TokeParts', WHERE WHAT IT READS IS OF BULK AT MOST 1048576: true; the input reads as it did. -/
def tokePartsUptoRow : OpenClaim := { program := "ytjgjcbhkalcjoaa", sum := "b741087bec731ce8e7d3dc4c94438d5c1b7b72c02e023f31115df44b71d3f7b6", func := "entail/entaillaw6.TokeParts", spec := "tokeParts", inPlace := ["internal/bytealg.IndexByteString", "internal/bytealg.IndexString"], named := ["internal/bytealg.MaxLen"], apart := false, narrowed := true }
def TokePartsUptoSaid : Prop := tokePartsUptoRow.holds Try.pinned (OpenSpec.upto tokePartsSpec)

/-- 'entaillaw6.TokeBytes', WHERE WHAT IT READS IS OF BULK AT MOST 1048576: true; the input reads as it did. -/
def tokeBytesUptoRow : OpenClaim := { program := "ytjgjcbhkalcjoaa", sum := "b741087bec731ce8e7d3dc4c94438d5c1b7b72c02e023f31115df44b71d3f7b6", func := "entail/entaillaw6.TokeBytes", spec := "tokeBytes", inPlace := ["internal/bytealg.IndexByteString", "internal/bytealg.IndexString"], named := ["internal/bytealg.MaxLen"], apart := false, narrowed := true }
def TokeBytesUptoSaid : Prop := tokeBytesUptoRow.holds Try.pinned (OpenSpec.upto tokeBytesSpec)

end Rows
end Go.Proofs.Ytjgjcbhkalcjoaa
