/- Go's operations turned into plain ones; those that look at no memory are right. -/
import Derived.Test.YtgcciohenncplaaAi2
namespace Go.Proofs.Ytgcciohenncplaa.Ai
noncomputable section
open Go.RowKit (Below)

def zAV : Value → Option AV
  | .bool b => some (.bool b)
  | .int k n => some (.int k n)
  | .string s => some (.str s.data.toList)
  | .pointer none => some .nilp
  | .slice none 0 0 => some .nils
  | .map none => some .nilm
  | .nilFunc => some .nilf
  | _ => none
def zAVs : List Value → Option (List AV)
  | [] => some []
  | v :: r => match zAV v, zAVs r with
    | some x, some xs => some (x :: xs)
    | _, _ => none
def cAV : Value → Option AV
  | .agg cs => (zAVs cs.toList).map .agg
  | .nilIface => some .top
  | v => zAV v

def cO : Operand → Option Opd
  | .tmp t => some (.tmp t)
  | .const v => (cAV v).map .const
  | .func f => some (.const (.fn f []))
  | .global _ => none
def cOs : List Operand → Option (List Opd)
  | [] => some []
  | o :: r => match cO o, cOs r with
    | some x, some xs => some (x :: xs)
    | _, _ => none
def cOo : Option Operand → Option (Option Opd)
  | none => some none
  | some o => (cO o).map some

theorem zAV_rel {ρ : Env} {V : Value} {v : AV} (h : zAV V = some v) : Rel ρ v V ∧ v.scal = true := by
  unfold zAV at h
  split at h <;> first | (cases h; exact ⟨by constructor <;> rfl, rfl⟩) | (cases h; done)
theorem zAVs_rel {ρ : Env} : ∀ {Vs : List Value} {vs : List AV}, zAVs Vs = some vs → RelL ρ vs Vs ∧ scals vs = true
  | [], vs, h => by cases h; exact ⟨.nil, rfl⟩
  | V :: r, vs, h => by
    unfold zAVs at h
    split at h
    · rename_i x xs h1 h2
      cases h
      have a := zAV_rel (ρ := ρ) h1; have b := zAVs_rel (ρ := ρ) h2
      exact ⟨.cons a.1 b.1, by simp only [scals, List.all_cons, a.2, Bool.true_and]; exact b.2⟩
    · cases h
theorem cAV_rel {ρ : Env} {V : Value} {v : AV} (h : cAV V = some v) : Rel ρ v V := by
  unfold cAV at h
  split at h
  · rename_i cs
    simp only [Option.map_eq_some_iff] at h
    obtain ⟨xs, hx, rfl⟩ := h
    simpa using Rel.agg' (zAVs_rel (ρ := ρ) hx).1
  · cases h; exact .top
  · exact (zAV_rel h).1

theorem mapO_get {α β : Type} {f : α → Option β} : ∀ {l : List α} {r : List β}, mapO f l = some r → r.length = l.length ∧ ∀ (j : Nat) x, l[j]? = some x → ∃ y, r[j]? = some y ∧ f x = some y
  | [], r, h => by simp only [mapO, Option.some.injEq] at h; subst h; exact ⟨rfl, fun j x h => by cases h⟩
  | a :: l, r, h => by
    unfold mapO at h
    split at h
    · rename_i y ys h1 h2
      cases h
      have ih := mapO_get h2
      refine ⟨by simp [ih.1], fun j x hx => ?_⟩
      cases j with
      | zero => simp at hx; subst hx; exact ⟨y, rfl, h1⟩
      | succ j => simp at hx; simpa using ih.2 j x hx
    · cases h

/-- A frame's slots. -/
structure FrOk (ρ : Env) (F : Fr) (a : Act) : Prop where
  rel : RelL ρ F a.tmps.toList
  nod : a.defers = []
theorem FrOk.mono {ρ ρ' : Env} (hx : Ext ρ ρ') {F : Fr} {a : Act} (h : FrOk ρ F a) : FrOk ρ' F a := ⟨h.rel.mono hx, h.nod⟩
theorem FrOk.ev {ρ : Env} {F : Fr} {a : Act} (h : FrOk ρ F a) {o : Operand} {x : Opd} (hc : cO o = some x) : Rel ρ (x.ev F) (a.eval o) := by
  unfold cO at hc
  split at hc
  · cases hc
    rename_i t
    show Rel ρ (F.getD t .top) (a.tmps.getD t undef)
    rw [arr_getD]
    cases ht : F[t]? with
    | none => simp only [List.getD_eq_getElem?_getD, ht]; exact .top
    | some y =>
      have := h.rel.at_ t y ht
      rw [List.getD_eq_getElem?_getD, ht]; exact this
  · simp only [Option.map_eq_some_iff] at hc
    obtain ⟨v, hv, rfl⟩ := hc
    exact cAV_rel hv
  · cases hc
    exact Rel.fn (vs := #[]) rfl (fun j x hx => by cases hx)
  · cases hc
theorem FrOk.put {ρ : Env} {F : Fr} {a : Act} (h : FrOk ρ F a) (d : Option Nat) {v : AV} {V : Value} (hv : Rel ρ v V) : FrOk ρ (putD F d v) (a.put d V) := by
  cases d with
  | none => exact h
  | some d =>
    refine ⟨?_, h.nod⟩
    have := h.rel.set d hv
    simpa [putD, Act.put] using this

/-- Fields, one behind the other from a place on, that are whole numbers (false) or texts (true). -/
def flatFrom (P : Program) : Nat → List Field → Option (List Bool)
  | _, [] => some []
  | i, f :: r => if f.offset = i ∧ f.name ≠ "_" then match P.underlying f.type, flatFrom P (i + 1) r with
      | some (.int _), some ks => some (false :: ks)
      | some .string, some ks => some (true :: ks)
      | _, _ => none
    else none
/-- A struct of whole numbers and texts alone. -/
def flatEq (P : Program) (t : TypeId) : Option (List Bool) :=
  match P.underlying t with
  | some (.struct fs) => if P.stoodInHeld t = false ∧ P.eqGuardType P.depth t = false then flatFrom P 0 fs.toList else none
  | _ => none
def isRowT (P : Program) (t : TypeId) : Option Bool :=
  match P.underlying t with
  | some (.struct _) | some (.array _ _) => some true
  | some _ => some false
  | none => none
def szT (P : Program) (t : TypeId) : Option Nat := (P.info? t).map (·.size)
def zeroT (P : Program) (t : TypeId) : Option (List AV) :=
  match P.info? t with
  | some i => match i.zero with
    | some V => zAVs V.cells.toList
    | none => none
  | none => none

def cBin : BinOp → Option ABin
  | .add => some .add | .sub => some .sub | .mul => some .mul | .quo => some .quo | .rem => some .rem
  | .and => some .and | .or => some .or | .xor => some .xor | .shl => some .shl | .shr => some .shr
  | .eql => some .eql | .neq => some .neq | .lss => some .lss | .leq => some .leq | .gtr => some .gtr | .geq => some .geq
  | .andNot => none

def cBinOp (P : Program) (op : BinOp) (t : TypeId) (x y : Opd) : Option POp :=
  match P.underlying t with
  | some (.int _) | some .string => (cBin op).map fun b => .bin b x y
  | some .bool => match op with
    | .eql => some (.eqb false x y)
    | .neq => some (.eqb true x y)
    | _ => none
  | some (.struct _) => match flatEq P t with
    | some ks => match op with
      | .eql => some (.eqs false ks x y)
      | .neq => some (.eqs true ks x y)
      | _ => none
    | none => none
  | some (.slice _) => match op with
    | .eql => some (.eqnil false 0 x y)
    | .neq => some (.eqnil true 0 x y)
    | _ => none
  | some (.pointer _) => match op with
    | .eql => some (.eqnil false 1 x y)
    | .neq => some (.eqnil true 1 x y)
    | _ => none
  | some (.map _ _) => match op with
    | .eql => some (.eqnil false 2 x y)
    | .neq => some (.eqnil true 2 x y)
    | _ => none
  | some (.func _ _ _) => match op with
    | .eql => some (.eqnil false 3 x y)
    | .neq => some (.eqnil true 3 x y)
    | _ => none
  | _ => none

/-- Operations that look at no memory. -/
def cP (P : Program) : Op → Option POp
  | .move x | .assign x => (cO x).map .mv
  | .pick c a b => do pure (.pick (← cO c) (← cO a) (← cO b))
  | .build t ps => match P.underlying t with
    | some (.struct fs) => if fs.all (fun f => (szT P f.type).isSome) then do
        let z ← zeroT P t
        let l ← mapO (fun p : Nat × Operand => do
          let f ← fs[p.1]?
          pure (f.offset, (← szT P f.type), (← cO p.2))) ps.toList
        pure (.build z l)
      else none
    | some (.array _ e) => do
      let z ← zeroT P t
      let sz ← szT P e
      let l ← mapO (fun p : Nat × Operand => do pure (p.1 * sz, sz, (← cO p.2))) ps.toList
      pure (.build z l)
    | _ => none
  | .nilCheck x => (cO x).map .nilchk
  | .binOp op t x y _ => do cBinOp P op t (← cO x) (← cO y)
  | .unOp .not _ x => (cO x).map .notb
  | .unOp .neg _ x => (cO x).map .negi
  | .convert s d x => match P.underlying s, P.underlying d with
    | some (.int _), some (.int k) => (cO x).map (.conv k)
    | _, _ => none
  | .makeFunc (.func f) first caps => if first.isEmpty then (cOs caps.toList).map (.mkfn f) else none
  | .slice t x lo hi mx => match P.underlying t with
    | some .string => match mx with
      | none => do pure (.cuts (← cO x) (← cOo lo) (← cOo hi))
      | some _ => none
    | some (.slice e) => do pure (.cut (← szT P e) (← cO x) (← cOo lo) (← cOo hi) (← cOo mx))
    | _ => none
  | .fieldAddr t x i => match P.underlying t with
    | some (.struct fs) => do
      let f ← fs[i]?
      let sz ← szT P f.type
      if sz = 0 then none else pure (.fld f.offset (← cO x))
    | _ => none
  | .field t x i => match P.underlying t with
    | some (.struct fs) => do
      let f ← fs[i]?
      pure (.part (← isRowT P f.type) f.offset (← szT P f.type) (← cO x))
    | _ => none
  | .indexAddr t x i => match P.underlying t with
    | some (.slice e) => do pure (.idx (← szT P e) (← cO x) (← cO i))
    | some (.array n e) => do pure (.idxa n (← szT P e) (← cO x) (← cO i))
    | _ => none
  | .index t x i => match P.underlying t with
    | some .string => do pure (.idxs (← cO x) (← cO i))
    | _ => none
  | .extract x i => do pure (.extract (← cO x) i)
  | .call { callee := .builtin .len, args := as_, argTypes := ts } => match ts[0]?, as_[0]? with
    | some t, some x => match P.underlying t with
      | some .string => (cO x).map (.lenS true)
      | some (.slice _) => (cO x).map (.lenS false)
      | _ => none
    | _, _ => none
  | .call { callee := .builtin .min, args := as_, .. } => match as_.toList with
    | [x, y] => do pure (.mini (← cO x) (← cO y))
    | _ => none
  | .call { callee := .builtin .max, args := as_, .. } => match as_.toList with
    | [x, y] => do pure (.maxi (← cO x) (← cO y))
    | _ => none
  | _ => none

end
end Go.Proofs.Ytgcciohenncplaa.Ai
