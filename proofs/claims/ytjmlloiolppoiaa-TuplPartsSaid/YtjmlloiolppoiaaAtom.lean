/- Names and ids: what the program and the document's answer say of a text, as plain laws on its bytes. -/
import Derived.Test.YtjmlloiolppoiaaBase
import Derived.Test.YtjmlloiolppoiaaPx2
import Derived.Test.YtjmlloiolppoiaaPx3
namespace Go.Proofs.Ytjmlloiolppoiaa.Atom
open Go.RowKit Go.Proofs.Ytjmlloiolppoiaa.P Go.Proofs.YtjmlloiolppoiaaW.PrintWords Go.Proofs.YtjmlloiolppoiaaW.PrintLast Go.Proofs.Ytjmlloiolppoiaa.Base

def firstB (c : UInt8) : Bool := decide ((97 ≤ c.toNat ∧ c.toNat ≤ 122) ∨ (48 ≤ c.toNat ∧ c.toNat ≤ 57))
def plainB (c : UInt8) : Bool := decide ((97 ≤ c.toNat ∧ c.toNat ≤ 122) ∨ (48 ≤ c.toNat ∧ c.toNat ≤ 57) ∨ c.toNat = 95 ∨ c.toNat = 45 ∨ c.toNat = 46)
def idB (c : UInt8) : Bool := decide ((97 ≤ c.toNat ∧ c.toNat ≤ 122) ∨ (48 ≤ c.toNat ∧ c.toNat ≤ 57) ∨ c.toNat = 95 ∨ c.toNat = 45 ∨ c.toNat = 46 ∨ c.toNat = 47 ∨ c.toNat = 124 ∨ c.toNat = 42)
def headB (l : List UInt8) : Bool := match l with | [] => false | c :: _ => firstB c
def nameL (l : List UInt8) : Bool := decide (l.length ≤ 30) && headB l && l.all plainB
def idL (l : List UInt8) : Bool := decide (l ≠ []) && decide (l.length ≤ 250) && l.all idB

theorem first_all : ∀ n : Fin 256, atom_first.f (n.val : Int) = some (decide ((97 ≤ n.val ∧ n.val ≤ 122) ∨ (48 ≤ n.val ∧ n.val ≤ 57))) := by decide +kernel
theorem first_eq (c : UInt8) : atom_first.f (c.toNat : Int) = some (firstB c) := first_all ⟨c.toNat, c.toNat_lt⟩
theorem plain_all : ∀ n : Fin 256, atom_plain.f (n.val : Int) = some (decide ((97 ≤ n.val ∧ n.val ≤ 122) ∨ (48 ≤ n.val ∧ n.val ≤ 57) ∨ n.val = 95 ∨ n.val = 45 ∨ n.val = 46)) := by decide +kernel
theorem plain_eq (c : UInt8) : atom_plain.f (c.toNat : Int) = some (plainB c) := plain_all ⟨c.toNat, c.toNat_lt⟩

theorem plain_of (c : UInt8) : plainB c = (firstB c || decide (c.toNat = 95 ∨ c.toNat = 45 ∨ c.toNat = 46)) := by
  unfold plainB firstB; rw [Bool.eq_iff_iff]; simp only [Bool.or_eq_true, decide_eq_true_eq]; omega
theorem id_of (c : UInt8) : idB c = (plainB c || decide (c.toNat = 47 ∨ c.toNat = 124 ∨ c.toNat = 42)) := by
  unfold idB plainB; rw [Bool.eq_iff_iff]; simp only [Bool.or_eq_true, decide_eq_true_eq]; omega
theorem first_plain {c : UInt8} (h : firstB c = true) : plainB c = true := by rw [plain_of, h]; rfl
theorem plain_id {c : UInt8} (h : plainB c = true) : idB c = true := by rw [id_of, h]; rfl

/-! ### Name -/
theorem name_l0 (s : ByteArray) (hs : s.size ≤ 1000000) : ∀ (l : List UInt8) (n : Nat), (A s).drop n = l → n ≤ s.size →
    Ev (fun k => atom_Name.l0 k s (s.size : Int) (n : Int)) (l.all plainB)
  | [], n, h, hn => by
    have := drop_nil_of h hn
    refine Ev.step (f := fun _ => some true) (fun k => ?_) (Ev.now _)
    simp only [atom_Name.l0]; rw [if_neg (by omega)]
  | c :: r, n, h, hn => by
    have hlt := lt_drop h
    by_cases g : plainB c = true
    · have ih := name_l0 s hs r (n + 1) (drop_succ h) (by omega)
      refine Ev.step (f := fun k => atom_Name.l0 k s (s.size : Int) ((n + 1 : Nat) : Int)) (fun k => ?_) ?_
      · simp only [atom_Name.l0]
        rw [if_pos (by omega), if_pos (by omega), if_pos (by omega), bt_drop h, plain_eq, g]
        simp only [Option.bind_some, if_true]
        rw [wrap_id (by omega) (by omega)]; rfl
      · rw [List.all_cons, g, Bool.true_and]; exact ih
    · refine Ev.step (f := fun _ => some false) (fun k => ?_) ?_
      · simp only [atom_Name.l0]
        rw [if_pos (by omega), if_pos (by omega), if_pos (by omega), bt_drop h, plain_eq, show plainB c = false by simpa using g]
        rfl
      · rw [List.all_cons, show plainB c = false by simpa using g]; exact Ev.now _

theorem name_big {l : List UInt8} (h : 30 < l.length) : nameL l = false := by
  unfold nameL; rw [decide_eq_false (by omega)]; rfl

theorem name_ev (s : ByteArray) : Ev (fun k => atom_Name.f k s) (nameL (A s)) := by
  have hz : Ev (fun k => atom_Name.j0 k s true) false := Ev.step (f := fun _ => some false) (fun k => by simp only [atom_Name.j0, if_true]) (Ev.now _)
  cases hA : A s with
  | nil =>
    refine Ev.congr (f := fun k => atom_Name.j0 k s true) (fun k => ?_) hz
    unfold atom_Name.f; rw [A_toList, hA, if_pos rfl]
  | cons c r =>
    have hsz : s.size = r.length + 1 := by rw [← A_len, hA, List.length_cons]
    by_cases g : 30 < s.size
    · rw [name_big (by rw [List.length_cons]; omega)]
      refine Ev.congr (f := fun k => atom_Name.j0 k s true) (fun k => ?_) hz
      unfold atom_Name.f; rw [A_toList, hA, if_neg (by simp), if_pos (by omega)]
    · have hb : bt s 0 = (c.toNat : Int) := bt_drop (n := 0) hA
      have e : nameL (c :: r) = (firstB c && (c :: r).all plainB) := by
        unfold nameL; rw [decide_eq_true (by rw [List.length_cons]; omega)]; rfl
      rw [e]
      refine Ev.congr (f := fun k => atom_Name.j0 k s (!(firstB c))) (fun k => ?_) ?_
      · unfold atom_Name.f; rw [A_toList, hA, if_neg (by simp), if_neg (by omega), if_pos (by omega), hb, first_eq]; rfl
      · by_cases f : firstB c = true
        · rw [f, Bool.true_and]
          refine Ev.step (f := fun k => atom_Name.l0 k s (s.size : Int) ((0 : Nat) : Int)) (fun k => ?_) (name_l0 s (by omega) (c :: r) 0 hA (by omega))
          simp only [atom_Name.j0]; rw [if_neg (by decide)]; rfl
        · rw [show firstB c = false by simpa using f]; exact hz

/-! ### ID -/
theorem id_l0 (s : ByteArray) (hs : s.size ≤ 1000000000000) : ∀ (l : List UInt8) (n : Nat), (A s).drop n = l → n ≤ s.size →
    Ev (fun k => atom_ID.l0 k s (s.size : Int) (n : Int)) (decide (A s ≠ []) && decide ((A s).length ≤ 250) && l.all idB)
  | [], n, h, hn => by
    have := drop_nil_of h hn
    refine Ev.step (f := fun _ => some (decide (A s ≠ []) && decide ((A s).length ≤ 250) && ([] : List UInt8).all idB)) (fun k => ?_) (Ev.now _)
    simp only [atom_ID.l0]; rw [if_neg (by omega), A_toList]
    by_cases e : A s = []
    · rw [if_pos e]; simp [e]
    · rw [if_neg e, A_len]; simp [e]; omega
  | c :: r, n, h, hn => by
    have hlt := lt_drop h
    have hb := bt_drop h
    have ih := id_l0 s hs r (n + 1) (drop_succ h) (by omega)
    have step : ∀ k, atom_ID.l0 (k + 1) s (s.size : Int) (n : Int) = if idB c = true then atom_ID.l0 k s (s.size : Int) ((n + 1 : Nat) : Int) else some false := by
      intro k
      simp only [atom_ID.l0]
      rw [if_pos (by omega), if_pos (by omega), if_pos (by omega), hb, plain_eq, wrap_id (by omega) (by omega), id_of]
      simp only [Option.bind_some]
      by_cases f : plainB c = true
      · rw [f]; rfl
      · rw [show plainB c = false by simpa using f, Bool.false_or]
        by_cases h1 : c.toNat = 47
        · simp [h1]
        · by_cases h2 : c.toNat = 124
          · simp [h2]
          · by_cases h3 : c.toNat = 42
            · simp [h3]
            · have : ¬ (c.toNat = 47 ∨ c.toNat = 124 ∨ c.toNat = 42) := by omega
              rw [decide_eq_false this]
              simp only [Bool.false_eq_true, if_false]
              rw [if_neg (by omega), if_neg (by omega), if_neg (by omega)]
    by_cases g : idB c = true
    · refine Ev.step (f := fun k => atom_ID.l0 k s (s.size : Int) ((n + 1 : Nat) : Int)) (fun k => by rw [step, if_pos g]) ?_
      rw [List.all_cons, g, Bool.true_and]; exact ih
    · refine Ev.step (f := fun _ => some false) (fun k => by rw [step, if_neg g]) ?_
      rw [List.all_cons, show idB c = false by simpa using g, Bool.false_and, Bool.and_false]; exact Ev.now _

theorem id_ev (s : ByteArray) (hs : s.size ≤ 1000000000000) : Ev (fun k => atom_ID.f k s) (idL (A s)) := by
  refine Ev.congr (f := fun k => atom_ID.l0 k s (s.size : Int) ((0 : Nat) : Int)) (fun k => ?_) (id_l0 s hs (A s) 0 rfl (by omega))
  unfold atom_ID.f; rfl

/-! ### Cut, Split -/
/-- What stands ahead of the first c. -/
def cutA (c : UInt8) (l : List UInt8) : List UInt8 := l.takeWhile (fun d => !(d == c))
/-- What stands behind the first c. -/
def cutB (c : UInt8) (l : List UInt8) : List UInt8 := l.drop ((cutA c l).length + 1)

theorem index_ahead (c : UInt8) : ∀ (l : List UInt8), (c ∈ l → Lib.indexByte l c = ((cutA c l).length : Int) ∧ (cutA c l).length < l.length) ∧ (¬ c ∈ l → Lib.indexByte l c = -1 ∧ cutA c l = l)
  | [] => by simp [Lib.indexByte, cutA]
  | b :: l => by
    obtain ⟨h1, h2⟩ := index_ahead c l
    by_cases e : b = c
    · subst e
      rw [indexByte_hit b b l rfl]
      simp [cutA]
    · have e' : ¬ c = b := fun x => e x.symm
      have hl : cutA c (b :: l) = b :: cutA c l := by unfold cutA; rw [List.takeWhile_cons]; simp [e]
      rw [indexByte_miss b c l e, hl]
      by_cases g : c ∈ l
      · obtain ⟨h3, h4⟩ := h1 g
        rw [h3, if_neg (by omega)]
        simp [e', g, h4]
      · obtain ⟨h3, h4⟩ := h2 g
        rw [h3, h4]
        simp [e', g]

theorem index_one (a : ByteArray) (c : UInt8) : stringslite_Index.f a ⟨⟨[c]⟩⟩ = some (Lib.indexByte (A a) c) := rfl

theorem cut_eq (a : ByteArray) (ha : a.size ≤ 1000000000000000) (c : UInt8) : strings_Cut.f a ⟨⟨[c]⟩⟩ =
    some (if c ∈ A a then (a.extract 0 (cutA c (A a)).length, a.extract ((cutA c (A a)).length + 1) a.size, true) else (a, ⟨#[]⟩, false)) := by
  unfold strings_Cut.f stringslite_Cut.f
  rw [index_one]
  simp only [Option.bind_some]
  obtain ⟨h1, h2⟩ := index_ahead c (A a)
  by_cases g : c ∈ A a
  · obtain ⟨h3, h4⟩ := h1 g
    rw [A_len] at h4
    have hs : ((⟨⟨[c]⟩⟩ : ByteArray).size : Int) = 1 := rfl
    rw [if_pos g, h3, hs, if_pos (by omega), if_pos (by omega), if_pos (by omega), wrap_id (by omega) (by omega), if_pos (by omega), if_pos (by omega)]
    simp only [Option.bind_some, Int.toNat_natCast]
    rw [show ((((cutA c (A a)).length : Int) + 1).toNat) = (cutA c (A a)).length + 1 by omega]
  · obtain ⟨h3, _⟩ := h2 g
    rw [if_neg g, h3, if_neg (by decide)]
    rfl

theorem A_ahead (a : ByteArray) (c : UInt8) : A (a.extract 0 (cutA c (A a)).length) = cutA c (A a) := by
  rw [A_cut, List.drop_zero, Nat.sub_zero]
  exact (List.prefix_iff_eq_take.1 (List.takeWhile_prefix _)).symm
theorem A_behind (a : ByteArray) (c : UInt8) : A (a.extract ((cutA c (A a)).length + 1) a.size) = cutB c (A a) := by
  rw [A_from]; rfl

/-- What Split says, as the bytes of its three answers. -/
def splitL (l : List UInt8) : List UInt8 × List UInt8 × Bool :=
  if 124 ∈ l ∧ nameL (cutA 124 l) = true then (cutA 124 l, cutB 124 l, true) else ([], [], false)
def toB (l : List UInt8) : ByteArray := ⟨l.toArray⟩
theorem A_toB (l : List UInt8) : A (toB l) = l := rfl
theorem toB_A (s : ByteArray) : toB (A s) = s := A_inj rfl

theorem split_ev (s : ByteArray) (hs : s.size ≤ 1000000000000000) : Ev (fun k => atom_Split.f k s) (toB (splitL (A s)).1, toB (splitL (A s)).2.1, (splitL (A s)).2.2) := by
  unfold atom_Split.f
  have hc := cut_eq s hs 124
  refine Ev.congr (f := fun k => (some (if (124 : UInt8) ∈ A s then (s.extract 0 (cutA 124 (A s)).length, s.extract ((cutA 124 (A s)).length + 1) s.size, true) else (s, ⟨#[]⟩, false))).bind fun bt112 => (if bt112.2.2 = true then ((atom_Name.f k bt112.1).bind fun t115 => (if t115 = true then (some (bt112.1, bt112.2.1, true)) else (some ((⟨#[]⟩ : ByteArray), (⟨#[]⟩ : ByteArray), false)))) else (some ((⟨#[]⟩ : ByteArray), (⟨#[]⟩ : ByteArray), false)))) (fun k => by rw [← hc]) ?_
  simp only [Option.bind_some]
  by_cases g : (124 : UInt8) ∈ A s
  · simp only [if_pos g, if_true]
    refine Ev.bind (f := fun _ t115 => (if t115 = true then (some (s.extract 0 (cutA 124 (A s)).length, s.extract ((cutA 124 (A s)).length + 1) s.size, true)) else (some ((⟨#[]⟩ : ByteArray), (⟨#[]⟩ : ByteArray), false)))) (name_ev _) ?_
    rw [A_ahead]
    by_cases n : nameL (cutA 124 (A s)) = true
    · simp only [if_pos n]
      unfold splitL; rw [if_pos ⟨g, n⟩]
      have e1 : s.extract 0 (cutA 124 (A s)).length = toB (cutA 124 (A s)) := A_inj (by rw [A_ahead]; rfl)
      have e2 : s.extract ((cutA 124 (A s)).length + 1) s.size = toB (cutB 124 (A s)) := A_inj (by rw [A_behind]; rfl)
      rw [e1, e2]; exact Ev.now _
    · simp only [if_neg n]
      unfold splitL; rw [if_neg (fun h => n h.2)]
      exact Ev.now _
  · simp only [if_neg g, Bool.false_eq_true, if_false]
    unfold splitL; rw [if_neg (fun h => g h.1)]
    exact Ev.now _

def nms : List ByteArray := [(⟨#[97]⟩ : ByteArray), (⟨#[98]⟩ : ByteArray), (⟨#[99]⟩ : ByteArray), (⟨#[100]⟩ : ByteArray), (⟨#[97, 98]⟩ : ByteArray), (⟨#[98, 45, 49]⟩ : ByteArray), (⟨#[120, 46, 121]⟩ : ByteArray), (⟨#[48]⟩ : ByteArray)]
theorem nms_all : ∀ i : Fin 8, nameL (A (nms.getD i.val ByteArray.empty)) = true ∧ (A (nms.getD i.val ByteArray.empty)).length ≤ 3 := by decide +kernel
theorem nm_eq (a : Int) : ∃ s : ByteArray, entaillaw1_Nm.f a = some s ∧ nameL (A s) = true ∧ s.size ≤ 3 ∧ ∃ i : Fin 8, s = nms.getD i.val ByteArray.empty ∧ (i.val : Int) = a % 8 := by
  obtain ⟨i, hi⟩ : ∃ i : Fin 8, (i.val : Int) = a % 8 := ⟨⟨(a % 8).toNat, by omega⟩, by simp only []; omega⟩
  obtain ⟨h1, h2⟩ := nms_all i
  refine ⟨nms.getD i.val ByteArray.empty, ?_, h1, by rw [← A_len]; exact h2, i, rfl, hi⟩
  unfold entaillaw1_Nm.f
  simp only [Option.bind_some]
  rw [Num.and7, ← hi]
  have e : rdOf ByteArray.empty nms (i.val : Int) = nms.getD i.val ByteArray.empty := by unfold rdOf; rw [Int.toNat_natCast]
  have h4 : nms.length = 8 := rfl
  show (if (0 : Int) ≤ (i.val : Int) then (if (i.val : Int) < ((nms.length : Nat) : Int) then some (rdOf ByteArray.empty nms (i.val : Int)) else none) else none) = _
  rw [e, h4, if_pos (by omega), if_pos (by omega)]

end Go.Proofs.Ytjmlloiolppoiaa.Atom
