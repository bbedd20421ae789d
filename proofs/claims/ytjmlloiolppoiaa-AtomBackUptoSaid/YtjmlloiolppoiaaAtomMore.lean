/- Texts joined: the program's Join and the document's Glue are one. -/
import Derived.Test.YtjmlloiolppoiaaAtom
namespace Go.Proofs.Ytjmlloiolppoiaa.Atom
open Go.RowKit Go.Proofs.Ytjmlloiolppoiaa.P Go.Proofs.YtjmlloiolppoiaaW.PrintWords Go.Proofs.YtjmlloiolppoiaaW.PrintLast Go.Proofs.Ytjmlloiolppoiaa.Base

/-- Texts with another one between, as bytes. -/
def glueL (l : List ByteArray) (sep : ByteArray) : List UInt8 := Lib.join (l.map A) (A sep)

theorem glue_take (x : ByteArray) (r : List ByteArray) (sep : ByteArray) (i : Nat) (y : ByteArray) (h : r[i]? = some y) :
    A x ++ Lib.joinTail (A sep) ((r.map A).take (i + 1)) = (A x ++ Lib.joinTail (A sep) ((r.map A).take i)) ++ A sep ++ A y := by
  rw [Lib.joinTail_take_succ (A sep) (r.map A) i (A y) (by rw [List.getElem?_map, h]; rfl)]
  simp

theorem glue_l0 (x : ByteArray) (r : List ByteArray) (sep : ByteArray) (hs : (glueL (x :: r) sep).length ≤ 1000000000000000000) (hr : r.length ≤ 1000000000000000000) :
    ∀ (d i : Nat) (acc : ByteArray), r.length - i = d → i ≤ r.length → A acc = A x ++ Lib.joinTail (A sep) ((r.map A).take i) →
      Ev (fun k => entailref1_Glue.l0 k (x :: r) sep acc ((i + 1 : Nat) : Int)) (toB (glueL (x :: r) sep))
  | 0, i, acc, hd, hi, ha => by
    have hl : i = r.length := by omega
    refine Ev.step (f := fun _ => some acc) (fun k => ?_) ?_
    · simp only [entailref1_Glue.l0]; rw [if_neg (by rw [List.length_cons]; omega)]
    · have : acc = toB (glueL (x :: r) sep) := by
        apply A_inj
        rw [ha, A_toB, glueL, List.map_cons, Lib.join_cons, List.take_of_length_le (by rw [List.length_map]; omega)]
      rw [this]; exact Ev.now _
  | d + 1, i, acc, hd, hi, ha => by
    have hlt : i < r.length := by omega
    obtain ⟨y, hy⟩ : ∃ y, r[i]? = some y := ⟨r[i], List.getElem?_eq_getElem hlt⟩
    have hn := glue_take x r sep i y hy
    have hbd : (A x ++ Lib.joinTail (A sep) ((r.map A).take (i + 1))).length ≤ (glueL (x :: r) sep).length := by
      rw [glueL, List.map_cons, Lib.join_cons, List.length_append, List.length_append]
      have := Lib.joinTail_take_le (A sep) (r.map A) (i + 1)
      omega
    have ha2 : A ((acc ++ sep) ++ y) = A x ++ Lib.joinTail (A sep) ((r.map A).take (i + 1)) := by
      rw [hn, A_append, A_append, ha]
    have hsz : ((acc ++ sep) ++ y).size ≤ 1000000000000000000 := by rw [← A_len, ha2]; omega
    rw [ByteArray.size_append, ByteArray.size_append] at hsz
    have ih := glue_l0 x r sep hs hr d (i + 1) ((acc ++ sep) ++ y) (by omega) (by omega) ha2
    refine Ev.step (f := fun k => entailref1_Glue.l0 k (x :: r) sep ((acc ++ sep) ++ y) ((i + 1 + 1 : Nat) : Int)) (fun k => ?_) ih
    have hrd : rdOf ByteArray.empty (x :: r) ((i + 1 : Nat) : Int) = y := by
      unfold rdOf
      rw [Int.toNat_natCast, List.getD_eq_getElem?_getD, List.getElem?_cons_succ, hy]; rfl
    simp only [entailref1_Glue.l0]
    rw [if_pos (by rw [List.length_cons]; omega), if_pos (by omega), if_pos (by omega), if_pos (by omega), hrd, if_pos (by rw [ByteArray.size_append]; omega), wrap_id (by omega) (by omega)]
    rfl

theorem glue_ev (l : List ByteArray) (sep : ByteArray) (hs : (glueL l sep).length ≤ 1000000000000000000) (hl : l.length ≤ 1000000000000000000) :
    Ev (fun k => entailref1_Glue.f k l sep) (toB (glueL l sep)) := by
  cases l with
  | nil =>
    refine Ev.congr (f := fun k => entailref1_Glue.l0 k [] sep ⟨#[]⟩ 0) (fun k => rfl) ?_
    refine Ev.step (f := fun _ => some ⟨#[]⟩) (fun k => ?_) (Ev.now _)
    simp only [entailref1_Glue.l0]; rw [if_neg (by decide)]
  | cons x r =>
    have h1 := glue_l0 x r sep hs (by rw [List.length_cons] at hl; omega) r.length 0 x (by omega) (by omega) (by simp [Lib.joinTail])
    have hx : x.size ≤ 1000000000000000000 := by
      rw [glueL, List.map_cons, Lib.join_cons, List.length_append, A_len] at hs; omega
    refine Ev.congr (f := fun k => entailref1_Glue.l0 k (x :: r) sep ⟨#[]⟩ 0) (fun k => rfl) ?_
    refine Ev.step (f := fun k => entailref1_Glue.l0 k (x :: r) sep x ((0 + 1 : Nat) : Int)) (fun k => ?_) h1
    have hrd : rdOf ByteArray.empty (x :: r) 0 = x := rfl
    simp only [entailref1_Glue.l0]
    rw [if_pos (by rw [List.length_cons]; omega), if_neg (by decide), if_pos (by decide), hrd, if_pos (by show 0 + x.size ≤ _; omega), wrap_id (by omega) (by omega)]
    have : (⟨#[]⟩ : ByteArray) ++ x = x := A_inj (by rw [A_append]; rfl)
    rw [this]; rfl

/-- The id of a tenant's thing, as bytes. -/
def joinT (t : ByteArray) (l : List ByteArray) : List UInt8 := A t ++ 124 :: glueL l ⟨#[47]⟩

theorem join_eq (t : ByteArray) (ht : t.size ≤ 1000000000000000) (l : List ByteArray) (hs : (glueL l ⟨#[47]⟩).length ≤ 140737488355328) (hl : l.length ≤ 140737488355328) :
    atom_Join.f t l = some (toB (joinT t l)) := by
  have e : strings_Join.f l (⟨#[47]⟩ : ByteArray) = some (toB (glueL l ⟨#[47]⟩)) := by
    unfold strings_Join.f
    rw [if_pos hl]
    show (if (glueL l ⟨#[47]⟩).length ≤ 140737488355328 then some (toB (glueL l ⟨#[47]⟩)) else none) = _
    rw [if_pos hs]
  unfold atom_Join.f
  rw [if_pos (by omega), e]
  simp only [Option.bind_some]
  have h1 : (⟨#[124]⟩ : ByteArray).size = 1 := rfl
  have h2 : (toB (glueL l ⟨#[47]⟩)).size = (glueL l ⟨#[47]⟩).length := rfl
  rw [if_pos (by rw [ByteArray.size_append]; omega)]
  congr 1
  apply A_inj
  rw [A_append, A_append, A_toB, A_toB, joinT]
  show (A t ++ [124]) ++ _ = _
  simp

theorem rjoin_ev (t : ByteArray) (ht : t.size ≤ 1000000000000000) (l : List ByteArray) (hs : (glueL l ⟨#[47]⟩).length ≤ 140737488355328) (hl : l.length ≤ 140737488355328) :
    Ev (fun k => entailref1_Join.f k t l) (toB (joinT t l)) := by
  have hg := glue_ev l ⟨#[47]⟩ (by omega) (by omega)
  have h1 : (⟨#[124]⟩ : ByteArray).size = 1 := rfl
  have h2 : (toB (glueL l ⟨#[47]⟩)).size = (glueL l ⟨#[47]⟩).length := rfl
  refine Ev.congr (f := fun k => (entailref1_Glue.f k l (⟨#[47]⟩ : ByteArray)).bind fun t159 => (if (t ++ (⟨#[124]⟩ : ByteArray)).size + t159.size ≤ 9223372036854775807 then (some ((t ++ (⟨#[124]⟩ : ByteArray)) ++ t159)) else (none))) (fun k => ?_) ?_
  · unfold entailref1_Join.f; rw [if_pos (by omega)]
  · refine Ev.bind (f := fun _ t159 => (if (t ++ (⟨#[124]⟩ : ByteArray)).size + t159.size ≤ 9223372036854775807 then (some ((t ++ (⟨#[124]⟩ : ByteArray)) ++ t159)) else (none))) hg ?_
    rw [ByteArray.size_append]
    simp only [if_pos (show t.size + (⟨#[124]⟩ : ByteArray).size + (toB (glueL l ⟨#[47]⟩)).size ≤ 9223372036854775807 by omega)]
    have : (t ++ (⟨#[124]⟩ : ByteArray)) ++ toB (glueL l ⟨#[47]⟩) = toB (joinT t l) := by
      apply A_inj
      rw [A_append, A_append, A_toB, A_toB, joinT]
      show (A t ++ [124]) ++ _ = _
      simp
    rw [this]; exact Ev.now _

/-- The whole is no longer than its parts and what stands between. -/
theorem glue_len (sep : ByteArray) : ∀ (l : List ByteArray) (b : Nat), (∀ x ∈ l, x.size ≤ b) → (glueL l sep).length ≤ l.length * (b + sep.size)
  | [], b, _ => by rw [glueL, List.map_nil, Lib.join_nil]; simp
  | x :: r, b, h => by
    rw [glueL, List.map_cons, Lib.join_cons, List.length_append, A_len]
    have hx := h x (List.mem_cons_self ..)
    have ht : ∀ (r : List ByteArray), (∀ y ∈ r, y.size ≤ b) → (Lib.joinTail (A sep) (r.map A)).length ≤ r.length * (b + sep.size) := by
      intro r
      induction r with
      | nil => intro _; simp [Lib.joinTail]
      | cons y r ih =>
        intro hr
        have := ih fun z hz => hr z (List.mem_cons_of_mem _ hz)
        have hy := hr y (List.mem_cons_self ..)
        simp only [Lib.joinTail, List.map_cons, List.flatten_cons, List.length_append, A_len, List.length_cons] at this ⊢
        rw [Nat.add_mul]; omega
    have := ht r fun y hy => h y (List.mem_cons_of_mem _ hy)
    rw [List.length_cons, Nat.add_mul]; omega

end Go.Proofs.Ytjmlloiolppoiaa.Atom
