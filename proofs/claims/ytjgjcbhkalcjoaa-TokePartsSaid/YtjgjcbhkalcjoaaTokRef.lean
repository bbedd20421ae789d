/- The document's own tokens are those of the plain scan. -/
import Derived.Test.YtjgjcbhkalcjoaaTokSpec
namespace Go.Proofs.Ytjgjcbhkalcjoaa.Tok
open Go.RowKit Go.Proofs.Ytjgjcbhkalcjoaa.P Go.Proofs.YtjgjcbhkalcjoaaW.PrintWords Go.Proofs.YtjgjcbhkalcjoaaW.PrintLast

theorem indexByte_nil (c : UInt8) : Lib.indexByte [] c = -1 := rfl
theorem indexByte_hit (b c : UInt8) (l : List UInt8) (h : b = c) : Lib.indexByte (b :: l) c = 0 := by
  simp [Lib.indexByte, h]
theorem indexByte_miss (b c : UInt8) (l : List UInt8) (h : b ≠ c) : Lib.indexByte (b :: l) c = if Lib.indexByte l c = -1 then -1 else Lib.indexByte l c + 1 := by
  simp [Lib.indexByte, h]
theorem indexByte_mem (c : UInt8) : ∀ l, (0 ≤ Lib.indexByte l c) ↔ c ∈ l
  | [] => by simp [Lib.indexByte]
  | b :: l => by
    have h0 := Lib.indexByte_ge l c
    have ih := indexByte_mem c l
    by_cases h : b = c
    · rw [indexByte_hit b c l h]; simp [h]
    · rw [indexByte_miss b c l h, List.mem_cons]
      have h2 : ¬ c = b := fun e => h e.symm
      by_cases g : Lib.indexByte l c = -1
      · rw [if_pos g]
        have : ¬ c ∈ l := by rw [← ih]; omega
        simp [h2, this]
      · rw [if_neg g]
        have : c ∈ l := by rw [← ih]; omega
        simp [this]; omega

theorem eq_nat {c d : UInt8} : ((c.toNat : Int) = (d.toNat : Int)) ↔ c = d := by
  constructor
  · intro h; exact UInt8.toNat_inj.1 (by omega)
  · intro h; rw [h]

theorem find_l0 (s : ByteArray) (c : UInt8) (hs : s.size ≤ 1000000000000) : ∀ (l : List UInt8) (n : Nat), (A s).drop n = l → n ≤ s.size →
    Ev (fun k => entailref1_Find.l0 k s (c.toNat : Int) (n : Int)) (if Lib.indexByte l c = -1 then -1 else (n : Int) + Lib.indexByte l c)
  | [], n, h, hn => by
    have hn' := drop_nil_of h hn
    refine Ev.step (f := fun _ => some (-1)) (fun k => ?_) ?_
    · simp only [entailref1_Find.l0]; rw [if_neg (by omega)]
    · exact Ev.now _
  | b :: l, n, h, hn => by
    have hlt := lt_drop h
    have hb := bt_drop h
    by_cases e : b = c
    · refine Ev.step (f := fun _ => some (n : Int)) (fun k => ?_) ?_
      · simp only [entailref1_Find.l0]; rw [if_pos (by omega), if_pos (by omega), hb, if_pos (by rw [e])]
      · rw [indexByte_hit b c l e]
        simpa using Ev.now (n : Int)
    · have ih := find_l0 s c hs l (n + 1) (drop_succ h) (by omega)
      refine Ev.step (f := fun k => entailref1_Find.l0 k s (c.toNat : Int) ((n + 1 : Nat) : Int)) (fun k => ?_) ?_
      · simp only [entailref1_Find.l0]; rw [if_pos (by omega), if_pos (by omega), hb, if_neg (by rw [eq_nat]; exact e), wrap_id (by omega) (by omega)]; rfl
      · rw [indexByte_miss b c l e]
        by_cases g : Lib.indexByte l c = -1
        · rw [g] at ih; simpa [g] using ih
        · have h0 := Lib.indexByte_ge l c
          rw [if_neg g] at ih
          have e2 : ((n + 1 : Nat) : Int) + Lib.indexByte l c = (n : Int) + (Lib.indexByte l c + 1) := by omega
          rw [e2] at ih
          rw [if_neg g, if_neg (by omega)]
          exact ih

def SG : ByteArray := ⟨#[123, 125, 58, 59, 124, 35, 61, 43, 45, 38, 40, 41]⟩
theorem find_sign (c : UInt8) : ∃ r, Ev (fun k => entailref1_Find.f k SG (c.toNat : Int) 0) r ∧ (r < 0 ↔ signB c = false) := by
  have h := find_l0 SG c (by decide) (A SG) 0 rfl (by decide)
  refine ⟨_, h, ?_⟩
  have hm := indexByte_mem c (A SG)
  have h0 := Lib.indexByte_ge (A SG) c
  have e : signB c = decide (c ∈ A SG) := by
    unfold signB; rw [show A SG = signs from rfl]; simp
  rw [e]
  by_cases g : c ∈ A SG
  · have := hm.2 g
    rw [if_neg (by omega)]; simp [g]; omega
  · have : ¬ 0 ≤ Lib.indexByte (A SG) c := fun x => g (hm.1 x)
    rw [if_pos (by omega)]; simp [g]

theorem ref_l1 (s : ByteArray) (hs : s.size ≤ 100000) (acc : List S30) (R : List S30 × Int × Int) : ∀ (l : List UInt8) (q : Nat), (A s).drop q = l → q ≤ s.size →
    Ev (fun k => entailref6_Tokens.l0 k s acc ((q + (toNl l).length : Nat) : Int)) R → Ev (fun k => entailref6_Tokens.l1 k s acc (q : Int)) R
  | [], q, h, hq, he => by
    have hn' := drop_nil_of h hq
    refine Ev.step (f := fun k => entailref6_Tokens.l0 k s acc (q : Int)) (fun k => ?_) he
    simp only [entailref6_Tokens.l1]; rw [if_neg (by omega)]
  | c :: l, q, h, hq, he => by
    have hlt := lt_drop h
    have hb := bt_drop h
    by_cases e : c = 10
    · subst e
      refine Ev.step (f := fun k => entailref6_Tokens.l0 k s acc (q : Int)) (fun k => ?_) he
      simp only [entailref6_Tokens.l1]; rw [if_pos (by omega), if_pos (by omega), hb, if_pos (by decide)]
    · have hl : (toNl (c :: l)).length = (toNl l).length + 1 := by
        unfold toNl; rw [List.takeWhile_cons]; simp [e]
      rw [hl] at he
      have e2 : q + ((toNl l).length + 1) = (q + 1) + (toNl l).length := by omega
      rw [e2] at he
      have ih := ref_l1 s hs acc R l (q + 1) (drop_succ h) (by omega) he
      refine Ev.step (f := fun k => entailref6_Tokens.l1 k s acc ((q + 1 : Nat) : Int)) (fun k => ?_) ih
      simp only [entailref6_Tokens.l1]
      rw [if_pos (by omega), if_pos (by omega), hb, if_neg (by rw [show (10 : Int) = ((10 : UInt8).toNat : Int) from rfl, eq_nat]; exact e), wrap_id (by omega) (by omega)]; rfl

theorem ref_l2 (s : ByteArray) (hs : s.size ≤ 100000) (acc : List S30) (R : List S30 × Int × Int) (p : Nat) (ha : acc.length ≤ p) : ∀ (l : List UInt8) (q : Nat), (A s).drop q = l → p ≤ q → q ≤ s.size →
    Ev (fun k => entailref6_Tokens.l0 k s (acc ++ [⟨1, p, s.extract p (q + (l.takeWhile letB).length)⟩]) ((q + (l.takeWhile letB).length : Nat) : Int)) R → Ev (fun k => entailref6_Tokens.l2 k s acc (p : Int) (q : Int)) R
  | [], q, h, hp, hq, he => by
    have hn' := drop_nil_of h hq
    refine Ev.step (f := fun k => entailref6_Tokens.l0 k s (acc ++ [⟨1, p, s.extract p q⟩]) (q : Int)) (fun k => ?_) he
    simp only [entailref6_Tokens.l2]; rw [if_neg (by omega), if_pos (by omega), if_pos (by omega), if_pos (by omega), if_pos (by omega)]
    simp only [Int.toNat_natCast]
  | c :: l, q, h, hp, hq, he => by
    have hlt := lt_drop h
    have hb := bt_drop h
    by_cases e : letB c = true
    · rw [List.takeWhile_cons, if_pos e] at he
      have e2 : q + (c :: l.takeWhile letB).length = (q + 1) + (l.takeWhile letB).length := by simp; omega
      rw [e2] at he
      have ih := ref_l2 s hs acc R p ha l (q + 1) (drop_succ h) (by omega) (by omega) he
      refine Ev.step (f := fun k => entailref6_Tokens.l2 k s acc (p : Int) ((q + 1 : Nat) : Int)) (fun k => ?_) ih
      simp only [entailref6_Tokens.l2]
      rw [if_pos (by omega), if_pos (by omega), hb, part_eq, e]
      simp only [Option.bind_some, if_true]
      rw [wrap_id (by omega) (by omega)]; rfl
    · have e' : letB c = false := by simpa using e
      rw [List.takeWhile_cons, if_neg e] at he
      refine Ev.step (f := fun k => entailref6_Tokens.l0 k s (acc ++ [⟨1, p, s.extract p q⟩]) (q : Int)) (fun k => ?_) he
      simp only [entailref6_Tokens.l2]
      rw [if_pos (by omega), if_pos (by omega), hb, part_eq, e']
      simp only [Option.bind_some, Bool.false_eq_true, if_false]
      rw [if_pos (by omega), if_pos (by omega), if_pos (by omega), if_pos (by omega)]
      simp only [Int.toNat_natCast]

theorem ref_l0 (s : ByteArray) (hs : s.size ≤ 100000) (acc : List S30) {p : Nat} {c : UInt8} {r : List UInt8} (h : (A s).drop p = c :: r) (k : Nat) :
    entailref6_Tokens.l0 (k + 1) s acc (p : Int) = entailref6_Tokens.j1 k s acc (p : Int) (c.toNat : Int) ((p + 1 : Nat) : Int) 2 (blankB c) := by
  have hlt := lt_drop h
  have hb := bt_drop h
  simp only [entailref6_Tokens.l0]
  rw [if_pos (by omega), if_pos (by omega), hb, wrap_id (by omega) (by omega), show ((p : Int) + 1) = ((p + 1 : Nat) : Int) from rfl]
  unfold blankB
  by_cases h1 : c.toNat = 32
  · rw [if_pos (by omega)]; simp [h1]
  by_cases h2 : c.toNat = 9
  · rw [if_neg (by omega), if_pos (by omega)]; simp [h2]
  by_cases h3 : c.toNat = 10
  · rw [if_neg (by omega), if_neg (by omega), if_pos (by omega)]; simp [h3]
  rw [if_neg (by omega), if_neg (by omega), if_neg (by omega)]
  congr 1
  by_cases h4 : c.toNat = 13
  · simp [h4]
  · have : ((c.toNat : Int) == 13) = false := by simp; omega
    rw [this]; simp [h1, h2, h3, h4]

theorem head_bt (s : ByteArray) {p : Nat} {c : UInt8} {r : List UInt8} (h : (A s).drop p = c :: r) (d : UInt8) :
    (((p + 1 : Nat) : Int) < (s.size : Int) ∧ (r.head? == some d) = (bt s ((p + 1 : Nat) : Int) == (d.toNat : Int))) ∨ (¬ ((p + 1 : Nat) : Int) < (s.size : Int) ∧ (r.head? == some d) = false) := by
  have h1 := drop_succ h
  cases r with
  | nil =>
    right
    have := drop_nil_of h1 (by have := lt_drop h; omega)
    exact ⟨by omega, rfl⟩
  | cons b r =>
    left
    refine ⟨by have := lt_drop h1; omega, ?_⟩
    rw [bt_drop h1]
    simp only [List.head?_cons]
    by_cases e : b = d
    · simp [e]
    · have : ((b.toNat : Int) == (d.toNat : Int)) = false := by
        rw [beq_eq_false_iff_ne]; intro x; exact e (eq_nat.1 x)
      rw [this]; simp [e]

theorem ref_j1 (s : ByteArray) (acc : List S30) {p : Nat} {c : UInt8} {r : List UInt8} (h : (A s).drop p = c :: r) (k : Nat) :
    entailref6_Tokens.j1 (k + 1) s acc (p : Int) (c.toNat : Int) ((p + 1 : Nat) : Int) 2 false = entailref6_Tokens.j2 k s acc (p : Int) (c.toNat : Int) ((p + 1 : Nat) : Int) 2 (c == 47 && r.head? == some 47) := by
  simp only [entailref6_Tokens.j1, Bool.false_eq_true, if_false]
  by_cases e : c = 47
  · subst e
    rw [if_pos (by decide)]
    rcases head_bt s h 47 with ⟨g1, g2⟩ | ⟨g1, g2⟩
    · rw [if_pos g1, if_pos (by omega), g2]; rfl
    · rw [if_neg g1, g2]; rfl
  · rw [if_neg (by rw [show (47 : Int) = ((47 : UInt8).toNat : Int) from rfl, eq_nat]; exact e), show (c == 47) = false by simpa using e]
    rfl

theorem ref_j2 (s : ByteArray) (acc : List S30) {p : Nat} {c : UInt8} {r : List UInt8} (h : (A s).drop p = c :: r) (k : Nat) :
    entailref6_Tokens.j2 (k + 1) s acc (p : Int) (c.toNat : Int) ((p + 1 : Nat) : Int) 2 false =
      if letB c = true then entailref6_Tokens.l2 k s acc (p : Int) ((p + 1 : Nat) : Int) else entailref6_Tokens.j5 k s acc (p : Int) (c.toNat : Int) ((p + 1 : Nat) : Int) 2 (c == 45 && r.head? == some 62) := by
  simp only [entailref6_Tokens.j2, Bool.false_eq_true, if_false]
  rw [part_eq]
  simp only [Option.bind_some]
  by_cases g : letB c = true
  · rw [if_pos g, if_pos g]
  rw [if_neg g, if_neg g]
  by_cases e : c = 45
  · subst e
    rw [if_pos (by decide)]
    rcases head_bt s h 62 with ⟨g1, g2⟩ | ⟨g1, g2⟩
    · rw [if_pos g1, if_pos (by omega), g2]; rfl
    · rw [if_neg g1, g2]; rfl
  · rw [if_neg (by rw [show (45 : Int) = ((45 : UInt8).toNat : Int) from rfl, eq_nat]; exact e), show (c == 45) = false by simpa using e]
    rfl

theorem ref_scan (s : ByteArray) (hs : s.size ≤ 100000) : ∀ (n p : Nat) (l : List UInt8) (acc : List S30), (A s).drop p = l → p ≤ s.size → l.length < n → acc.length ≤ p →
    Ev (fun k => entailref6_Tokens.l0 k s acc (p : Int)) (fin acc (scan n p l))
  | 0, _, _, _, _, _, h, _ => absurd h (by omega)
  | n + 1, p, [], acc, h, hp, hn, ha => by
    have hn' := drop_nil_of h hp
    refine Ev.step (f := fun _ => some (acc, 0, 0)) (fun k => ?_) ?_
    · simp only [entailref6_Tokens.l0]; rw [if_neg (by omega)]
    · unfold scan fin; simp only [List.append_nil]; exact Ev.now _
  | n + 1, p, c :: r, acc, h, hp, hn, ha => by
    have hlt := lt_drop h
    have hd := drop_succ h
    have hlen : (c :: r).length = s.size - p := by rw [← h, List.length_drop, A_len]
    simp only [List.length_cons] at hn hlen
    refine Ev.step (ref_l0 s hs acc h) ?_
    simp only [scan]
    by_cases hb : blankB c = true
    · rw [if_pos hb, hb]
      refine Ev.step (f := fun k => entailref6_Tokens.l0 k s acc ((p + 1 : Nat) : Int)) (fun k => by simp only [entailref6_Tokens.j1, if_true]) ?_
      exact ref_scan s hs n (p + 1) r acc hd (by omega) (by omega) (by omega)
    rw [if_neg hb, show blankB c = false by simpa using hb]
    refine Ev.step (ref_j1 s acc h) ?_
    by_cases hc : (c == 47 && r.head? == some 47) = true
    · rw [if_pos hc, hc]
      refine Ev.step (f := fun k => entailref6_Tokens.l1 k s acc ((p + 1 : Nat) : Int)) (fun k => by simp only [entailref6_Tokens.j2, if_true]) ?_
      have e47 : c = 47 := by simp at hc; exact hc.1
      have hl : (toNl (c :: r)).length = (toNl r).length + 1 := by
        unfold toNl; rw [List.takeWhile_cons]; simp [e47]
      have hle : (toNl (c :: r)).length ≤ (c :: r).length := List.Sublist.length_le (List.takeWhile_sublist _)
      simp only [List.length_cons] at hle
      refine ref_l1 s hs acc _ r (p + 1) hd (by omega) ?_
      rw [show p + 1 + (toNl r).length = p + (toNl (c :: r)).length by omega]
      refine ref_scan s hs n (p + (toNl (c :: r)).length) _ acc (by rw [← List.drop_drop, h]) (by omega) ?_ (by omega)
      rw [List.length_drop, List.length_cons]; omega
    rw [if_neg hc, show (c == 47 && r.head? == some 47) = false by simpa using hc]
    refine Ev.step (ref_j2 s acc h) ?_
    by_cases hw : letB c = true
    · rw [if_pos hw]; simp only [if_pos hw]
      have hle : (r.takeWhile letB).length ≤ r.length := List.Sublist.length_le (List.takeWhile_sublist _)
      refine ref_l2 s hs acc _ p ha r (p + 1) hd (by omega) (by omega) ?_
      have hx : s.extract p (p + 1 + (r.takeWhile letB).length) = ⟨(c :: r.takeWhile letB).toArray⟩ := by
        apply A_inj
        rw [A_cut, h, show p + 1 + (r.takeWhile letB).length - p = (r.takeWhile letB).length + 1 by omega, List.take_succ_cons]
        show _ = c :: r.takeWhile letB
        congr 1
        exact (List.prefix_iff_eq_take.1 (List.takeWhile_prefix letB)).symm
      rw [hx]
      have ih := ref_scan s hs n (p + 1 + (r.takeWhile letB).length) (r.drop (r.takeWhile letB).length) (acc ++ [⟨1, p, ⟨(c :: r.takeWhile letB).toArray⟩⟩]) (by rw [← hd, List.drop_drop]) (by omega) (by rw [List.length_drop]; omega) (by rw [List.length_append]; simp; omega)
      have e : ∀ x : List S30 × Option Nat, fin (acc ++ [⟨1, p, ⟨(c :: r.takeWhile letB).toArray⟩⟩]) x = fin acc (⟨1, p, ⟨(c :: r.takeWhile letB).toArray⟩⟩ :: x.1, x.2) := by
        intro x; unfold fin; cases x.2 <;> simp
      rw [e] at ih
      exact ih
    rw [if_neg hw]; simp only [if_neg hw]
    by_cases hr : (c == 45 && r.head? == some 62) = true
    · rw [if_pos hr, hr]
      have e45 : c = 45 := by simp at hr; exact hr.1
      have e62 : r.head? = some 62 := by simp at hr; exact hr.2
      obtain ⟨r2, rfl⟩ : ∃ r2, r = 62 :: r2 := by
        cases r with
        | nil => simp at e62
        | cons b r2 => simp at e62; exact ⟨r2, by rw [e62]⟩
      simp only [List.length_cons] at hlen hn
      have hx : s.extract p (p + 2) = ⟨#[45, 62]⟩ := by
        apply A_inj
        rw [A_cut, h, show p + 2 - p = 2 by omega, e45]; rfl
      refine Ev.step (f := fun k => entailref6_Tokens.l0 k s (acc ++ [⟨2, p, ⟨#[45, 62]⟩⟩]) ((p + 2 : Nat) : Int)) (fun k => ?_) ?_
      · simp only [entailref6_Tokens.j5, if_true]
        have hw2 : wrap64 (((p + 1 : Nat) : Int) + 1) = ((p + 2 : Nat) : Int) := by rw [wrap_id (by omega) (by omega)]; omega
        rw [hw2, if_pos (by decide), if_pos (by omega), if_pos (by omega), if_pos (by omega), if_pos (by omega)]
        simp only [Int.toNat_natCast]
        rw [hx]
      · have ih := ref_scan s hs n (p + 2) r2 (acc ++ [⟨2, p, ⟨#[45, 62]⟩⟩]) (drop_succ hd) (by omega) (by omega) (by rw [List.length_append]; simp; omega)
        have e : ∀ x : List S30 × Option Nat, fin (acc ++ [⟨2, p, ⟨#[45, 62]⟩⟩]) x = fin acc (⟨2, p, ⟨#[45, 62]⟩⟩ :: x.1, x.2) := by
          intro x; unfold fin; cases x.2 <;> simp
        rw [e] at ih
        exact ih
    rw [if_neg hr, show (c == 45 && r.head? == some 62) = false by simpa using hr]
    obtain ⟨q, hq, hqs⟩ := find_sign c
    by_cases hg : signB c = true
    · rw [if_pos hg]
      have hq0 : ¬ q < 0 := by rw [hqs, hg]; decide
      have hx : s.extract p (p + 1) = ⟨#[c]⟩ := by
        apply A_inj
        rw [A_cut, h, show p + 1 - p = 1 by omega]; rfl
      have ih := ref_scan s hs n (p + 1) r (acc ++ [⟨2, p, ⟨#[c]⟩⟩]) hd (by omega) (by omega) (by rw [List.length_append]; simp; omega)
      have e : ∀ x : List S30 × Option Nat, fin (acc ++ [⟨2, p, ⟨#[c]⟩⟩]) x = fin acc (⟨2, p, ⟨#[c]⟩⟩ :: x.1, x.2) := by
        intro x; unfold fin; cases x.2 <;> simp
      rw [e] at ih
      refine Ev.step (f := fun k => (entailref1_Find.f k SG (c.toNat : Int) 0).bind fun t => if t < 0 then some (([] : List S30), (p : Int), 7) else entailref6_Tokens.l0 k s (acc ++ [⟨2, p, ⟨#[c]⟩⟩]) ((p + 1 : Nat) : Int)) (fun k => ?_) ?_
      · simp only [entailref6_Tokens.j5, Bool.false_eq_true, if_false]
        rw [if_pos (show (2 : Int) > 0 by decide), if_pos (show (0 : Int) ≤ (p : Int) by omega), if_pos (show (p : Int) ≤ ((p + 1 : Nat) : Int) by omega), if_pos (show ((p + 1 : Nat) : Int) ≤ (s.size : Int) by omega), if_pos (show acc.length < 4398046511104 by omega)]
        simp only [Int.toNat_natCast]
        rw [hx]; rfl
      · refine Ev.bind (f := fun k t => if t < 0 then some (([] : List S30), (p : Int), 7) else entailref6_Tokens.l0 k s (acc ++ [⟨2, p, ⟨#[c]⟩⟩]) ((p + 1 : Nat) : Int)) hq ?_
        simp only [if_neg hq0]
        exact ih
    · rw [if_neg hg]
      have hq0 : q < 0 := by rw [hqs]; simpa using hg
      refine Ev.step (f := fun k => (entailref1_Find.f k SG (c.toNat : Int) 0).bind fun t => if t < 0 then some (([] : List S30), (p : Int), 7) else (if (2 : Int) > 0 then (if 0 ≤ (p : Int) then (if (p : Int) ≤ ((p + 1 : Nat) : Int) then (if ((p + 1 : Nat) : Int) ≤ (s.size : Int) then (if acc.length < 4398046511104 then (entailref6_Tokens.l0 k s (acc ++ [(⟨2, p, s.extract (p : Int).toNat (((p + 1 : Nat) : Int)).toNat⟩ : S30)]) ((p + 1 : Nat) : Int)) else (none)) else (none)) else (none)) else (none)) else (entailref6_Tokens.l0 k s acc ((p + 1 : Nat) : Int)))) (fun k => ?_) ?_
      · simp only [entailref6_Tokens.j5, Bool.false_eq_true, if_false]; rfl
      · refine Ev.bind (f := fun k t => if t < 0 then some (([] : List S30), (p : Int), 7) else _) hq ?_
        simp only [if_pos hq0]
        exact Ev.now _

/-- entailref6.Tokens: of a text that is not too long. -/
theorem ref_tokens (s : ByteArray) (hs : s.size ≤ 100000) : Ev (fun k => entailref6_Tokens.f k s) (fin [] (scan (s.size + 1) 0 (A s))) := by
  refine Ev.congr (f := fun k => entailref6_Tokens.l0 k s [] ((0 : Nat) : Int)) (fun k => ?_) (ref_scan s hs (s.size + 1) 0 (A s) [] rfl (by omega) (by rw [A_len]; omega) (by simp))
  unfold entailref6_Tokens.f; rw [if_neg (by omega)]; rfl

end Go.Proofs.Ytjgjcbhkalcjoaa.Tok
