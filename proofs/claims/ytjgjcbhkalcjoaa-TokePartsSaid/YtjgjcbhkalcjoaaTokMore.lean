/- The statements' own helpers (the drawn text, the row that is held against itself, what the document fixes), as plain laws. -/
import Derived.Test.YtjgjcbhkalcjoaaTokProg
import Derived.Test.YtjgjcbhkalcjoaaNum
import Derived.Test.YtjgjcbhkalcjoaaPx7
import Derived.Test.YtjgjcbhkalcjoaaPx3
namespace Go.Proofs.Ytjgjcbhkalcjoaa.Tok
open Go.RowKit Go.Proofs.Ytjgjcbhkalcjoaa.P Go.Proofs.YtjgjcbhkalcjoaaW.PrintWords Go.Proofs.YtjgjcbhkalcjoaaW.PrintLast

theorem awake_ev : Ev (fun k => entaillaw6_awake.f k) true :=
  Ev.of (fun k => entaillaw6_awake.mono k) (k := 100) (by decide +kernel)

theorem same_self (l : List S30) (hl : l.length ≤ 1000000000) : ∀ (d n : Nat), l.length - n = d → n ≤ l.length → Ev (fun k => entaillaw6_Same.l0 k l l (n : Int)) true
  | 0, n, hd, hn => by
    refine Ev.step (f := fun _ => some true) (fun k => ?_) (Ev.now _)
    simp only [entaillaw6_Same.l0]; rw [if_neg (by omega)]
  | d + 1, n, hd, hn => by
    refine Ev.step (f := fun k => entaillaw6_Same.l0 k l l ((n + 1 : Nat) : Int)) (fun k => ?_) (same_self l hl d (n + 1) (by omega) (by omega))
    simp only [entaillaw6_Same.l0]
    rw [if_pos (by omega), if_pos (by omega), if_pos (by omega), if_neg (by simp), wrap_id (by omega) (by omega)]
    rfl
theorem same_ev (l : List S30) (hl : l.length ≤ 1000000000) : Ev (fun k => entaillaw6_Same.f k l l) true := by
  refine Ev.congr (f := fun k => entaillaw6_Same.l0 k l l ((0 : Nat) : Int)) (fun k => ?_) (same_self l hl l.length 0 (by omega) (by omega))
  unfold entaillaw6_Same.f; rw [if_pos rfl]; rfl

/-- The pieces that the drawn text is made of. -/
def pieces : List ByteArray := [(⟨#[116, 121, 112, 101, 32]⟩ : ByteArray), (⟨#[97]⟩ : ByteArray), (⟨#[98]⟩ : ByteArray), (⟨#[114]⟩ : ByteArray), (⟨#[115]⟩ : ByteArray), (⟨#[32]⟩ : ByteArray), (⟨#[123]⟩ : ByteArray), (⟨#[125]⟩ : ByteArray), (⟨#[58]⟩ : ByteArray), (⟨#[59]⟩ : ByteArray), (⟨#[124]⟩ : ByteArray), (⟨#[35]⟩ : ByteArray), (⟨#[61]⟩ : ByteArray), (⟨#[43]⟩ : ByteArray), (⟨#[45]⟩ : ByteArray), (⟨#[38]⟩ : ByteArray), (⟨#[40]⟩ : ByteArray), (⟨#[41]⟩ : ByteArray), (⟨#[45, 62]⟩ : ByteArray), (⟨#[47, 47, 120, 10]⟩ : ByteArray), (⟨#[10]⟩ : ByteArray), (⟨#[116, 121, 112, 101, 32, 97, 32, 123]⟩ : ByteArray), (⟨#[114, 58, 32, 97, 59]⟩ : ByteArray), (⟨#[115, 32, 61, 32, 114]⟩ : ByteArray)]
theorem pieces_size : ∀ i : Fin 24, (pieces.getD i.val ByteArray.empty).size ≤ 8 := by decide +kernel

/-- The drawn text is made of the pieces: at most 100 of them. -/
inductive Drawn : Nat → ByteArray → Prop
  | none : Drawn 0 ⟨#[]⟩
  | more {n : Nat} {t : ByteArray} (i : Fin 24) (h : Drawn n t) : Drawn (n + 1) (t ++ pieces.getD i.val ByteArray.empty)

theorem Drawn.size {n : Nat} {t : ByteArray} (h : Drawn n t) : t.size ≤ 8 * n := by
  induction h with
  | none => exact Nat.le_refl _
  | more i h ih =>
    have := pieces_size i
    rw [ByteArray.size_append]; omega

theorem tame_l0 (s : ByteArray) (hs : s.size ≤ 1000000000000) : ∀ (d n : Nat) (t : ByteArray), 100 - n = d → n ≤ 100 → Drawn n t → ∃ m r, Ev (fun k => entaillaw6_Tame.l0 k s t (n : Int)) r ∧ Drawn m r ∧ m ≤ 100
  | 0, n, t, hd, hn, ht => by
    refine ⟨n, t, ?_, ht, hn⟩
    refine Ev.step (f := fun _ => some t) (fun k => ?_) (Ev.now _)
    simp only [entaillaw6_Tame.l0]
    by_cases g : (n : Int) < (s.size : Int)
    · rw [if_pos g, if_neg (by omega)]
    · rw [if_neg g]
  | d + 1, n, t, hd, hn, ht => by
    by_cases g : (n : Int) < (s.size : Int)
    · have hb := bt_range s (n : Int)
      have hz : Int.tmod (Go.bits .and .u8 (bt s (n : Int)) 255) 24 = bt s (n : Int) % 24 := by
        rw [Num.and255_u8 _ hb.1 hb.2, Num.tmod_pos _ _ hb.1]
      obtain ⟨i, hi⟩ : ∃ i : Fin 24, (i.val : Int) = bt s (n : Int) % 24 := ⟨⟨(bt s (n : Int) % 24).toNat, by omega⟩, by simp only []; omega⟩
      have hsz := pieces_size i
      have hts := ht.size
      obtain ⟨m, r, h1, h2, h3⟩ := tame_l0 s hs d (n + 1) (t ++ pieces.getD i.val ByteArray.empty) (by omega) (by omega) (ht.more i)
      refine ⟨m, r, ?_, h2, h3⟩
      refine Ev.step (f := fun k => entaillaw6_Tame.l0 k s (t ++ pieces.getD i.val ByteArray.empty) ((n + 1 : Nat) : Int)) (fun k => ?_) h1
      simp only [entaillaw6_Tame.l0]
      rw [if_pos g, if_pos (by omega), hz, ← hi]
      simp only [Option.bind_some]
      have e : rdOf ByteArray.empty pieces (i.val : Int) = pieces.getD i.val ByteArray.empty := by unfold rdOf; rw [Int.toNat_natCast]
      have e2 : ((pieces.length : Nat) : Int) = 24 := rfl
      show (if (0 : Int) ≤ (n : Int) then (if (0 : Int) ≤ (i.val : Int) then (if (i.val : Int) < ((pieces.length : Nat) : Int) then (if t.size + (rdOf ByteArray.empty pieces (i.val : Int)).size ≤ 9223372036854775807 then entaillaw6_Tame.l0 k s (t ++ rdOf ByteArray.empty pieces (i.val : Int)) (wrap64 ((n : Int) + 1)) else none) else none) else none) else none) = _
      rw [e, e2, if_pos (by omega), if_pos (by omega), if_pos (by omega), if_pos (by omega), wrap_id (by omega) (by omega)]
      rfl
    · refine ⟨n, t, ?_, ht, hn⟩
      refine Ev.step (f := fun _ => some t) (fun k => ?_) (Ev.now _)
      simp only [entaillaw6_Tame.l0]
      rw [if_neg g]

theorem tame_ev (s : ByteArray) (hs : s.size ≤ 1000000000000) : ∃ m r, Ev (fun k => entaillaw6_Tame.f k s) r ∧ Drawn m r ∧ m ≤ 100 :=
  tame_l0 s hs 100 0 ⟨#[]⟩ rfl (by omega) .none

theorem scan_len : ∀ (n p : Nat) (l : List UInt8), (scan n p l).1.length ≤ l.length
  | 0, _, _ => by simp [scan]
  | n + 1, p, [] => by simp [scan]
  | n + 1, p, c :: r => by
    simp only [scan]
    by_cases b : blankB c = true
    · rw [if_pos b]; have := scan_len n (p + 1) r; simp only [List.length_cons]; omega
    rw [if_neg b]
    by_cases g : (c == 47 && r.head? == some 47) = true
    · rw [if_pos g]
      have := scan_len n (p + (toNl (c :: r)).length) ((c :: r).drop (toNl (c :: r)).length)
      rw [List.length_drop] at this; omega
    rw [if_neg g]
    by_cases w : letB c = true
    · rw [if_pos w]
      have := scan_len n (p + 1 + (r.takeWhile letB).length) (r.drop (r.takeWhile letB).length)
      rw [List.length_drop] at this
      simp only [List.length_cons]; omega
    rw [if_neg w]
    by_cases a : (c == 45 && r.head? == some 62) = true
    · rw [if_pos a]
      have := scan_len n (p + 2) (r.drop 1)
      rw [List.length_drop] at this
      simp only [List.length_cons]; omega
    rw [if_neg a]
    by_cases q : signB c = true
    · rw [if_pos q]
      have := scan_len n (p + 1) r
      simp only [List.length_cons]; omega
    rw [if_neg q]; simp

end Go.Proofs.Ytjgjcbhkalcjoaa.Tok
