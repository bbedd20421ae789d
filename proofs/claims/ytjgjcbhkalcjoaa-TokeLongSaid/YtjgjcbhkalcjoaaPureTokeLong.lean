/- The longest row of letters is one name; two signs that make a longer one are that one; a note goes to its line's end. -/
import Derived.Test.YtjgjcbhkalcjoaaPx4
import Derived.Test.YtjgjcbhkalcjoaaTokLaws
namespace Go.Proofs.Ytjgjcbhkalcjoaa.PureLong
open Go.RowKit Go.Proofs.Ytjgjcbhkalcjoaa.P Go.Proofs.YtjgjcbhkalcjoaaW.PrintWords Go.Proofs.YtjgjcbhkalcjoaaW.PrintLast Go.Proofs.Ytjgjcbhkalcjoaa.Tok

/-- The name: n letters. -/
def word : Nat → List UInt8
  | 0 => []
  | n + 1 => word n ++ [(((97 + ((n % 26) % 256)) % 256 : Nat)).toUInt8]
theorem word_len (n : Nat) : (word n).length = n := by
  induction n with
  | zero => rfl
  | succ n ih => simp [word, ih]
theorem letter_all : ∀ i : Fin 26, letB ((97 + ((i.val % 26) % 256)) % 256 : Nat).toUInt8 = true := by decide +kernel
theorem word_let (n : Nat) : ∀ c ∈ word n, letB c = true := by
  induction n with
  | zero => intro c h; simp [word] at h
  | succ n ih =>
    intro c h
    simp only [word, List.mem_append, List.mem_singleton] at h
    rcases h with h | rfl
    · exact ih c h
    · have := letter_all ⟨n % 26, Nat.mod_lt _ (by decide)⟩
      simpa using this

def signsOf : Nat → List UInt8
  | 0 => [45, 62]
  | 1 => [45]
  | 2 => [45, 45]
  | _ => [45, 62, 45]
def text (n k : Nat) : List UInt8 := word n ++ (signsOf k ++ (word n ++ (47 :: 47 :: ((32 :: (word n ++ [45, 62])) ++ 10 :: word n))))

/-- The tokens behind the signs, from place q on. -/
def rest (n q : Nat) : List S30 := [⟨1, q, ⟨(word n).toArray⟩⟩, ⟨1, ((q + n + (n + 3) + 3 : Nat) : Int), ⟨(word n).toArray⟩⟩]

theorem scan_rest (N n q : Nat) (hn : 0 < n) (h : (word n ++ (47 :: 47 :: ((32 :: (word n ++ [45, 62])) ++ 10 :: word n))).length < N) :
    scan N q (word n ++ (47 :: 47 :: ((32 :: (word n ++ [45, 62])) ++ 10 :: word n))) = (rest n q, none) := by
  have hw : word n ≠ [] := fun e => by have := word_len n; rw [e] at this; simp at this; omega
  have hl := word_len n
  simp only [List.length_append, List.length_cons, List.length_nil] at h
  rw [scan_word N q _ _ (by simp only [List.length_append, List.length_cons, List.length_nil]; omega) hw (word_let n) (by intro c hc; simp at hc; subst hc; decide)]
  rw [scan_note N _ _ _ (by simp only [List.length_append, List.length_cons, List.length_nil]; omega) (by
    intro c hc
    simp only [List.mem_cons, List.mem_append, List.not_mem_nil, or_false] at hc
    rcases hc with rfl | hc | rfl | rfl
    · decide
    · rintro rfl; exact absurd (word_let n _ hc) (by decide)
    · decide
    · decide)]
  have e := scan_word N (q + (word n).length + (32 :: (word n ++ [45, 62])).length + 3) (word n) [] (by simp only [List.append_nil]; omega) hw (word_let n) (by simp)
  rw [List.append_nil] at e
  rw [e]
  have hz : ∀ p, scan N p [] = ([], none) := fun p => by cases N <;> rfl
  rw [hz]
  unfold rest
  simp only [List.length_cons, List.length_append, hl, List.length_nil]

def mid (n : Nat) : Nat → List S30
  | 0 => [⟨2, n, ⟨#[45, 62]⟩⟩]
  | 1 => [⟨2, n, ⟨#[45]⟩⟩]
  | 2 => [⟨2, n, ⟨#[45]⟩⟩, ⟨2, ((n + 1 : Nat) : Int), ⟨#[45]⟩⟩]
  | _ => [⟨2, n, ⟨#[45, 62]⟩⟩, ⟨2, ((n + 2 : Nat) : Int), ⟨#[45]⟩⟩]

theorem scan_text (n k : Nat) (hn : 0 < n) (N : Nat) (h : (text n k).length < N) :
    scan N 0 (text n k) = (⟨1, 0, ⟨(word n).toArray⟩⟩ :: (mid n k ++ rest n (n + (signsOf k).length)), none) := by
  have hw : word n ≠ [] := fun e => by have := word_len n; rw [e] at this; simp at this; omega
  have hl := word_len n
  have hh : ∀ r : List UInt8, (word n ++ r).head? ≠ some 62 := by
    intro r e
    cases hwn : word n with
    | nil => exact hw hwn
    | cons c v =>
      rw [hwn] at e; simp at e
      have := word_let n c (by rw [hwn]; exact List.mem_cons_self ..)
      rw [e] at this; exact absurd this (by decide)
  unfold text at h ⊢
  simp only [List.length_append, List.length_cons, List.length_nil] at h
  rw [scan_word N 0 _ _ (by simp only [List.length_append, List.length_cons, List.length_nil]; omega) hw (word_let n) (by
    intro c hc
    match k with
    | 0 => simp [signsOf] at hc; subst hc; decide
    | 1 => simp [signsOf] at hc; subst hc; decide
    | 2 => simp [signsOf] at hc; subst hc; decide
    | k + 3 => simp [signsOf] at hc; subst hc; decide), hl, Nat.zero_add]
  match k with
  | 0 =>
    simp only [signsOf, List.length_cons, List.length_nil] at h
    simp only [signsOf, List.cons_append, List.nil_append, mid, List.length_cons, List.length_nil]
    have e1 := scan_arrow N n (word n ++ (47 :: 47 :: ((32 :: (word n ++ [45, 62])) ++ 10 :: word n))) (by simp only [List.length_append, List.length_cons, List.length_nil]; omega)
    simp only [List.cons_append] at e1
    rw [e1]
    have e2 := scan_rest N n (n + 2) hn (by simp only [List.length_append, List.length_cons, List.length_nil]; omega)
    simp only [List.cons_append] at e2
    rw [e2]; rfl
  | 1 =>
    simp only [signsOf, List.length_cons, List.length_nil] at h
    simp only [signsOf, List.cons_append, List.nil_append, mid, List.length_cons, List.length_nil]
    have e1 := scan_sign N n 45 (word n ++ (47 :: 47 :: ((32 :: (word n ++ [45, 62])) ++ 10 :: word n))) (by simp only [List.length_append, List.length_cons, List.length_nil]; omega) (by decide) (fun x => hh _ x.2)
    simp only [List.cons_append] at e1
    rw [e1]
    have e2 := scan_rest N n (n + 1) hn (by simp only [List.length_append, List.length_cons, List.length_nil]; omega)
    simp only [List.cons_append] at e2
    rw [e2]; rfl
  | 2 =>
    simp only [signsOf, List.length_cons, List.length_nil] at h
    simp only [signsOf, List.cons_append, List.nil_append, mid, List.length_cons, List.length_nil]
    have e0 := scan_sign N n 45 (45 :: (word n ++ (47 :: 47 :: ((32 :: (word n ++ [45, 62])) ++ 10 :: word n)))) (by simp only [List.length_append, List.length_cons, List.length_nil]; omega) (by decide) (by simp)
    simp only [List.cons_append] at e0
    rw [e0]
    have e1 := scan_sign N (n + 1) 45 (word n ++ (47 :: 47 :: ((32 :: (word n ++ [45, 62])) ++ 10 :: word n))) (by simp only [List.length_append, List.length_cons, List.length_nil]; omega) (by decide) (fun x => hh _ x.2)
    simp only [List.cons_append] at e1
    rw [e1]
    have e2 := scan_rest N n (n + 1 + 1) hn (by simp only [List.length_append, List.length_cons, List.length_nil]; omega)
    simp only [List.cons_append] at e2
    rw [e2]; rfl
  | k + 3 =>
    simp only [signsOf, List.length_cons, List.length_nil] at h
    simp only [signsOf, List.cons_append, List.nil_append, mid, List.length_cons, List.length_nil]
    have e0 := scan_arrow N n (45 :: (word n ++ (47 :: 47 :: ((32 :: (word n ++ [45, 62])) ++ 10 :: word n)))) (by simp only [List.length_append, List.length_cons, List.length_nil]; omega)
    simp only [List.cons_append] at e0
    rw [e0]
    have e1 := scan_sign N (n + 2) 45 (word n ++ (47 :: 47 :: ((32 :: (word n ++ [45, 62])) ++ 10 :: word n))) (by simp only [List.length_append, List.length_cons, List.length_nil]; omega) (by decide) (fun x => hh _ x.2)
    simp only [List.cons_append] at e1
    rw [e1]
    have e2 := scan_rest N n (n + 2 + 1) hn (by simp only [List.length_append, List.length_cons, List.length_nil]; omega)
    simp only [List.cons_append] at e2
    rw [e2]; rfl

/-- 'a', a note with the byte c, a line feed, 'b'. -/
theorem scan_ab (c : UInt8) (hc : c ≠ 10) : scan 8 0 [97, 32, 47, 47, c, 10, 98] = ([⟨1, 0, ⟨#[97]⟩⟩, ⟨1, 6, ⟨#[98]⟩⟩], none) := by
  have e1 := scan_word 8 0 [97] [32, 47, 47, c, 10, 98] (by simp) (by decide) (by intro d hd; simp at hd; subst hd; decide) (by intro d hd; simp at hd; subst hd; decide)
  have e2 := scan_blank 8 1 32 [47, 47, c, 10, 98] (by simp) (by decide)
  have e3 := scan_note 8 2 [c] [98] (by simp) (by intro d hd; simp at hd; subst hd; exact hc)
  have e4 := scan_word 8 6 [98] [] (by decide) (by decide) (by intro d hd; simp at hd; subst hd; decide) (by simp)
  have e5 : [97] ++ [32, 47, 47, c, 10, 98] = ([97, 32, 47, 47, c, 10, 98] : List UInt8) := rfl
  rw [← e5, e1]
  show (_ :: (scan 8 1 (32 :: [47, 47, c, 10, 98])).1, (scan 8 1 (32 :: [47, 47, c, 10, 98])).2) = _
  rw [e2]
  show (_ :: (scan 8 2 (47 :: 47 :: ([c] ++ 10 :: [98]))).1, (scan 8 2 (47 :: 47 :: ([c] ++ 10 :: [98]))).2) = _
  rw [e3]
  show (_ :: (scan 8 6 ([98] ++ [])).1, (scan 8 6 ([98] ++ [])).2) = _
  rw [e4]
  rfl

abbrev seps : List ByteArray := [(⟨#[45, 62]⟩ : ByteArray), (⟨#[45]⟩ : ByteArray), (⟨#[45, 45]⟩ : ByteArray), (⟨#[45, 62, 45]⟩ : ByteArray)]
theorem seps_A : ∀ k : Nat, k < 4 → A (rdOf ByteArray.empty seps (k : Int)) = signsOf k := by
  intro k hk
  have : k = 0 ∨ k = 1 ∨ k = 2 ∨ k = 3 := by omega
  rcases this with rfl | rfl | rfl | rfl <;> rfl
theorem signsOf_len (k : Nat) : (signsOf k).length ≤ 3 := by
  match k with
  | 0 => decide
  | 1 => decide
  | 2 => decide
  | k + 3 => simp [signsOf]

theorem last (n k : Nat) (c : UInt8) (hc : c ≠ 10) (hn : 0 < n) (hn32 : n ≤ 32) (hk : k < 4) (x7 : ByteArray) (h7 : A x7 = word n) (x13 : Int) (h13 : x13 = rd [4, 4, 5, 5] (k : Int)) :
    Ev (fun f => entaillaw6_TokeLong.j1 f (n : Int) (k : Int) (c.toNat : Int) x7 (rdOf ByteArray.empty seps (k : Int)) (⟨1, 0, ⟨(word n).toArray⟩⟩ :: (mid n k ++ rest n (n + (signsOf k).length))) 0 x13) true := by
  have hc1 : A (strOfNums [(c.toNat : Int)]) = [c] := by
    show [((c.toNat : Int).toNat).toUInt8] = [c]
    rw [Int.toNat_natCast]; simp
  have hcs : (strOfNums [(c.toNat : Int)]).size = 1 := by rw [← A_len, hc1]; rfl
  have hA : A ((⟨#[97, 32, 47, 47]⟩ : ByteArray) ++ strOfNums [(c.toNat : Int)] ++ (⟨#[10, 98]⟩ : ByteArray)) = [97, 32, 47, 47, c, 10, 98] := by
    rw [A_append, A_append, hc1]; rfl
  have hsz : ((⟨#[97, 32, 47, 47]⟩ : ByteArray) ++ strOfNums [(c.toNat : Int)] ++ (⟨#[10, 98]⟩ : ByteArray)).size = 7 := by rw [← A_len, hA]; rfl
  have ht := toke_tokens ((⟨#[97, 32, 47, 47]⟩ : ByteArray) ++ strOfNums [(c.toNat : Int)] ++ (⟨#[10, 98]⟩ : ByteArray)) (by omega)
  rw [hA, hsz, scan_ab c hc] at ht
  have hw : (⟨(word n).toArray⟩ : ByteArray) = x7 := A_inj (by rw [h7]; rfl)
  have hrl : (rdOf ByteArray.empty seps (k : Int)).size = (signsOf k).length := by rw [← A_len, seps_A k hk]
  have hsl := signsOf_len k
  obtain ⟨K1, hK1⟩ := ht
  obtain ⟨K2, hK2⟩ := awake_ev
  refine ⟨max K1 K2 + 1, fun f hf => ?_⟩
  obtain ⟨f, rfl⟩ : ∃ i, f = i + 1 := ⟨f - 1, by omega⟩
  have q1 : toke_Tokens.f f ((⟨#[97, 32, 47, 47]⟩ : ByteArray) ++ strOfNums [(c.toNat : Int)] ++ (⟨#[10, 98]⟩ : ByteArray)) = some (fin [] ([⟨1, 0, ⟨#[97]⟩⟩, ⟨1, 6, ⟨#[98]⟩⟩], none)) := hK1 f (by omega)
  have q2 : entaillaw6_awake.f f = some true := hK2 f (by omega)
  simp only [entaillaw6_TokeLong.j1]
  simp only [Option.bind_some]
  rw [if_pos (by omega), if_pos (by rw [ByteArray.size_append, hcs]; decide), q1]
  simp only [Option.bind_some, fin, List.nil_append]
  have hlen : ((⟨1, 0, ⟨(word n).toArray⟩⟩ :: (mid n k ++ rest n (n + (signsOf k).length)) : List S30).length : Int) = x13 := by
    rw [h13]
    have : k = 0 ∨ k = 1 ∨ k = 2 ∨ k = 3 := by omega
    rcases this with rfl | rfl | rfl | rfl <;> rfl
  have hx13 : x13 = 4 ∨ x13 = 5 := by
    rw [h13]
    have : k = 0 ∨ k = 1 ∨ k = 2 ∨ k = 3 := by omega
    rcases this with rfl | rfl | rfl | rfl
    · left; rfl
    · left; rfl
    · right; rfl
    · right; rfl
  have hw1 : wrap64 (x13 - 1) = x13 - 1 := wrap_id (by omega) (by omega)
  have hlast : rd_T30 (⟨1, 0, ⟨(word n).toArray⟩⟩ :: (mid n k ++ rest n (n + (signsOf k).length))) (x13 - 1) = ⟨1, ((n + (signsOf k).length + n + (n + 3) + 3 : Nat) : Int), ⟨(word n).toArray⟩⟩ := by
    rw [h13]
    have : k = 0 ∨ k = 1 ∨ k = 2 ∨ k = 3 := by omega
    rcases this with rfl | rfl | rfl | rfl <;> rfl
  have hone : ((rd_T30 (⟨1, 0, ⟨(word n).toArray⟩⟩ :: (mid n k ++ rest n (n + (signsOf k).length))) 1).f2).toList = (rdOf ByteArray.empty [(⟨#[45, 62]⟩ : ByteArray), (⟨#[45]⟩ : ByteArray), (⟨#[45]⟩ : ByteArray), (⟨#[45, 62]⟩ : ByteArray)] (k : Int)).toList := by
    rw [A_toList, A_toList]
    have : k = 0 ∨ k = 1 ∨ k = 2 ∨ k = 3 := by omega
    rcases this with rfl | rfl | rfl | rfl <;> rfl
  have hp : ((n + (signsOf k).length + n + (n + 3) + 3 : Nat) : Int) = wrap64 (wrap64 (wrap64 (wrap64 (wrap64 (2 * (n : Int)) + ((rdOf ByteArray.empty seps (k : Int)).size : Int)) + 3) + (n : Int)) + 3) := by
    rw [hrl]
    rw [wrap_id (i := 2 * (n : Int)) (by omega) (by omega), wrap_id (i := 2 * (n : Int) + ((signsOf k).length : Int)) (by omega) (by omega), wrap_id (i := 2 * (n : Int) + ((signsOf k).length : Int) + 3) (by omega) (by omega), wrap_id (i := 2 * (n : Int) + ((signsOf k).length : Int) + 3 + (n : Int)) (by omega) (by omega), wrap_id (by omega) (by omega)]
    omega
  rw [hlen, hw1, hlast]
  simp only [if_true]
  rw [if_pos (by omega), if_pos (show ((rd_T30 (⟨1, 0, ⟨(word n).toArray⟩⟩ :: (mid n k ++ rest n (n + (signsOf k).length))) 0).f2).toList = x7.toList by rw [← hw]; rfl), if_pos (by omega), if_pos (by omega), if_pos (show (ByteArray.mk (word n).toArray).toList = x7.toList by rw [hw]), if_pos hp, if_pos (by omega)]
  rw [if_pos (by omega), if_pos (show (k : Int) < (([(⟨#[45, 62]⟩ : ByteArray), (⟨#[45]⟩ : ByteArray), (⟨#[45]⟩ : ByteArray), (⟨#[45, 62]⟩ : ByteArray)] : List ByteArray).length : Int) by show (k : Int) < 4; omega), if_pos hone, if_pos (show ((([⟨1, 0, ⟨#[97]⟩⟩, ⟨1, 6, ⟨#[98]⟩⟩] : List S30).length : Nat) : Int) = 2 from rfl), q2]
  rfl

theorem l0_ev (n k : Nat) (a2 : Int) (ha2 : 0 ≤ a2 ∧ a2 ≤ 255) (hn : 0 < n) (hn32 : n ≤ 32) (hk : k < 4) : ∀ (d j : Nat) (s : ByteArray), n - j = d → j ≤ n → A s = word j →
    Ev (fun f => entaillaw6_TokeLong.l0 f (n : Int) (k : Int) a2 s (j : Int)) true
  | 0, j, s, hd, hj, hs => by
    have ej : j = n := by omega
    subst ej
    have hsz : s.size = j := by rw [← A_len, hs, word_len]
    have hsep : (rdOf ByteArray.empty seps (k : Int)).size ≤ 3 := by rw [← A_len, seps_A k hk]; exact signsOf_len k
    obtain ⟨c, hc, hcv⟩ : ∃ c : UInt8, c ≠ 10 ∧ (c.toNat : Int) = if a2 = 10 then 32 else a2 := by
      by_cases e : a2 = 10
      · exact ⟨32, by decide, by rw [if_pos e]; rfl⟩
      · refine ⟨UInt8.ofNat a2.toNat, ?_, ?_⟩
        · intro h
          have := congrArg UInt8.toNat h
          rw [UInt8.toNat_ofNat'] at this
          simp at this; omega
        · rw [if_neg e, UInt8.toNat_ofNat']; omega
    have hall : A ((((((s ++ rdOf ByteArray.empty seps (k : Int)) ++ s) ++ (⟨#[47, 47, 32]⟩ : ByteArray)) ++ s) ++ (⟨#[45, 62, 10]⟩ : ByteArray)) ++ s) = text j k := by
      simp only [A_append, hs, seps_A k hk, text]
      show ((((word j ++ signsOf k) ++ word j) ++ [47, 47, 32]) ++ word j) ++ [45, 62, 10] ++ word j = _
      simp
    have hbig : ((((((s ++ rdOf ByteArray.empty seps (k : Int)) ++ s) ++ (⟨#[47, 47, 32]⟩ : ByteArray)) ++ s) ++ (⟨#[45, 62, 10]⟩ : ByteArray)) ++ s).size ≤ 200 := by
      simp only [ByteArray.size_append, hsz]
      show j + (rdOf ByteArray.empty seps (k : Int)).size + j + 3 + j + 3 + j ≤ 200
      omega
    have ht := toke_tokens _ (Nat.le_trans hbig (by decide))
    rw [hall, scan_text j k hn _ (by rw [← hall, A_len]; omega)] at ht
    have hl := last j k c hc hn hn32 hk s hs (rd [4, 4, 5, 5] (k : Int)) rfl
    obtain ⟨K1, hK1⟩ := ht
    obtain ⟨K2, hK2⟩ := hl
    refine ⟨max K1 K2 + 1, fun f hf => ?_⟩
    obtain ⟨f, rfl⟩ : ∃ i, f = i + 1 := ⟨f - 1, by omega⟩
    have q1 : toke_Tokens.f f ((((((s ++ rdOf ByteArray.empty seps (k : Int)) ++ s) ++ (⟨#[47, 47, 32]⟩ : ByteArray)) ++ s) ++ (⟨#[45, 62, 10]⟩ : ByteArray)) ++ s) = _ := hK1 f (by omega)
    have q2 := hK2 f (by omega)
    simp only [entaillaw6_TokeLong.l0]
    rw [if_neg (by omega)]
    simp only [Option.bind_some]
    show (if (0 : Int) ≤ (k : Int) then (if (k : Int) < (seps.length : Int) then (if s.size + (rdOf ByteArray.empty seps (k : Int)).size ≤ 9223372036854775807 then (if (s ++ (rdOf ByteArray.empty seps (k : Int))).size + s.size ≤ 9223372036854775807 then (if ((s ++ (rdOf ByteArray.empty seps (k : Int))) ++ s).size + 3 ≤ 9223372036854775807 then (if (((s ++ (rdOf ByteArray.empty seps (k : Int))) ++ s) ++ (⟨#[47, 47, 32]⟩ : ByteArray)).size + s.size ≤ 9223372036854775807 then (if ((((s ++ (rdOf ByteArray.empty seps (k : Int))) ++ s) ++ (⟨#[47, 47, 32]⟩ : ByteArray)) ++ s).size + 3 ≤ 9223372036854775807 then (if (((((s ++ (rdOf ByteArray.empty seps (k : Int))) ++ s) ++ (⟨#[47, 47, 32]⟩ : ByteArray)) ++ s) ++ (⟨#[45, 62, 10]⟩ : ByteArray)).size + s.size ≤ 9223372036854775807 then _ else none) else none) else none) else none) else none) else none) else none) else none) = some true
    simp only [ByteArray.size_append] at hbig
    rw [if_pos (by omega), if_pos (show (k : Int) < ((seps.length : Nat) : Int) by show (k : Int) < 4; omega), if_pos (by omega), if_pos (by simp only [ByteArray.size_append]; omega), if_pos (by simp only [ByteArray.size_append]; omega), if_pos (by simp only [ByteArray.size_append]; omega), if_pos (by simp only [ByteArray.size_append]; omega), if_pos (by simp only [ByteArray.size_append]; omega), q1]
    simp only [Option.bind_some, fin, List.nil_append]
    rw [if_pos (show (k : Int) < (([4, 4, 5, 5] : List Int).length : Int) by show (k : Int) < 4; omega)]
    by_cases e : a2 = 10
    · rw [if_pos e]; rw [if_pos e] at hcv; rw [← hcv]; exact q2
    · rw [if_neg e]; rw [if_neg e] at hcv; rw [← hcv]; exact q2
  | d + 1, j, s, hd, hj, hs => by
    have hsz : s.size = j := by rw [← A_len, hs, word_len]
    have hnum : ∀ x : Int, A (strOfNums [x]) = [x.toNat.toUInt8] := fun x => rfl
    have hv : ((97 + ((Int.tmod (j : Int) 26) % 256)) % 256) = (((97 + ((j % 26) % 256)) % 256 : Nat) : Int) := by
      rw [Num.tmod_pos _ _ (by omega)]; omega
    have hs2 : A (s ++ strOfNums [(((97 + ((j % 26) % 256)) % 256 : Nat) : Int)]) = word (j + 1) := by
      rw [A_append, hs, hnum, Int.toNat_natCast]; rfl
    have hns : (strOfNums [(((97 + ((j % 26) % 256)) % 256 : Nat) : Int)]).size = 1 := by rw [← A_len, hnum]; rfl
    have ih := l0_ev n k a2 ha2 hn hn32 hk d (j + 1) (s ++ strOfNums [(((97 + ((j % 26) % 256)) % 256 : Nat) : Int)]) (by omega) (by omega) hs2
    refine Ev.step (f := fun f => entaillaw6_TokeLong.l0 f (n : Int) (k : Int) a2 (s ++ strOfNums [(((97 + ((j % 26) % 256)) % 256 : Nat) : Int)]) ((j + 1 : Nat) : Int)) (fun f => ?_) ih
    simp only [entaillaw6_TokeLong.l0]
    rw [if_pos (by omega), hv]
    simp only [Option.bind_some]
    rw [if_pos (by omega), wrap_id (by omega) (by omega)]
    rfl

theorem TokeLong : entaillaw6_TokeLong.Pure := by
  intro a0 a1 a2 _ _ w2
  have hb : 0 ≤ a2 ∧ a2 ≤ 255 := by simp [Lit.wf, IntKind.min, IntKind.max, IntKind.signed, IntKind.bits] at w2; omega
  refine Ev.rounds (g := fun f => entaillaw6_TokeLong.f f a0 a1 a2) ?_
  obtain ⟨n, hn⟩ : ∃ n : Nat, (n : Int) = a0 % 32 + 1 := ⟨(a0 % 32 + 1).toNat, by omega⟩
  obtain ⟨k, hk⟩ : ∃ k : Nat, (k : Int) = a1 % 4 := ⟨(a1 % 4).toNat, by omega⟩
  refine Ev.congr (f := fun f => entaillaw6_TokeLong.l0 f (n : Int) (k : Int) a2 ⟨#[]⟩ ((0 : Nat) : Int)) (fun f => ?_) (l0_ev n k a2 hb (by omega) (by omega) (by omega) n 0 ⟨#[]⟩ (by omega) (by omega) rfl)
  unfold entaillaw6_TokeLong.f
  rw [Num.and31, Num.and3, wrap_id (by omega) (by omega), ← hn, ← hk]
  rfl

end Go.Proofs.Ytjgjcbhkalcjoaa.PureLong
namespace Go.Proofs.Ytjgjcbhkalcjoaa.Pure
theorem TokeLong : P.entaillaw6_TokeLong.Pure := PureLong.TokeLong
end Go.Proofs.Ytjgjcbhkalcjoaa.Pure
