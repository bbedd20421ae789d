/- A byte that can't stand is told where it is; a text is as long as the bound says. -/
import Derived.Test.YtjgjcbhkalcjoaaPx9
import Derived.Test.YtjgjcbhkalcjoaaTokMore
namespace Go.Proofs.Ytjgjcbhkalcjoaa.PureBytes
open Go.RowKit Go.Proofs.Ytjgjcbhkalcjoaa.P Go.Proofs.YtjgjcbhkalcjoaaW.PrintWords Go.Proofs.YtjgjcbhkalcjoaaW.PrintLast Go.Proofs.Ytjgjcbhkalcjoaa.Tok

/-- n times a letter and a blank. -/
def head : Nat → List UInt8
  | 0 => []
  | n + 1 => head n ++ [97, 32]
theorem head_len (n : Nat) : (head n).length = 2 * n := by
  induction n with
  | zero => rfl
  | succ n ih => simp only [head, List.length_append, ih, List.length_cons, List.length_nil]; omega
theorem head_cons (n : Nat) (l : List UInt8) : head (n + 1) ++ l = 97 :: 32 :: (head n ++ l) := by
  induction n generalizing l with
  | zero => rfl
  | succ n ih =>
    show (head (n + 1) ++ [97, 32]) ++ l = _
    rw [List.append_assoc, ih]
    show _ = 97 :: 32 :: ((head n ++ [97, 32]) ++ l)
    rw [List.append_assoc]

theorem A_nums (l : List Int) : A (strOfNums l) = l.map fun x => x.toNat.toUInt8 := rfl

/-- What the scan answers behind letters and blanks: as what stands there, from that place on. -/
theorem scan_head : ∀ (n m p : Nat) (l : List UInt8), 2 * n + l.length < m → ∃ ts, scan m p (head n ++ l) = (ts ++ (scan (l.length + 1) (p + 2 * n) l).1, (scan (l.length + 1) (p + 2 * n) l).2)
  | 0, m, p, l, h => by
    refine ⟨[], ?_⟩
    show scan m p l = _
    rw [scan_more m (l.length + 1) p l (by omega) (by omega)]; rfl
  | n + 1, 0, p, l, h => absurd h (by omega)
  | n + 1, 1, p, l, h => absurd h (by omega)
  | n + 1, m + 2, p, l, h => by
    rw [head_cons]
    obtain ⟨ts, hts⟩ := scan_head n m (p + 2) l (by omega)
    have e1 : scan (m + 2) p (97 :: 32 :: (head n ++ l)) = (⟨1, p, ⟨#[97]⟩⟩ :: (scan (m + 1) (p + 1) (32 :: (head n ++ l))).1, (scan (m + 1) (p + 1) (32 :: (head n ++ l))).2) := by
      simp only [scan]
      rw [if_neg (show ¬ blankB 97 = true by decide), if_neg (by simp), if_pos (show letB 97 = true by decide)]
      have : (32 :: (head n ++ l)).takeWhile letB = [] := by
        rw [List.takeWhile_cons, if_neg (by decide)]
      rw [this]
      rfl
    have e2 : scan (m + 1) (p + 1) (32 :: (head n ++ l)) = scan m (p + 2) (head n ++ l) := by
      simp only [scan]
      rw [if_pos (show blankB 32 = true by decide)]
    rw [e1, e2, hts, show p + 2 + 2 * n = p + 2 * (n + 1) by omega]
    exact ⟨⟨1, p, ⟨#[97]⟩⟩ :: ts, rfl⟩

/-- May the byte stand there? -/
def goodB (c : UInt8) : Bool := blankB c || letB c || signB c

theorem scan_tail (c : UInt8) (p : Nat) : (goodB c = true → (scan 4 p [c, 32, 98]).2 = none) ∧ (goodB c = false → (scan 4 p [c, 32, 98]).2 = some p) := by
  have e3 : ∀ q, (scan 3 q [32, 98]).2 = none := fun q => rfl
  simp only [scan]
  have hn : ¬ (c == 47 && ([32, 98] : List UInt8).head? == some 47) = true := by simp
  have ha : ¬ (c == 45 && ([32, 98] : List UInt8).head? == some 62) = true := by simp
  by_cases b : blankB c = true
  · rw [if_pos b]; simp only [goodB, b]; exact ⟨fun _ => rfl, fun h => by simp at h⟩
  rw [if_neg b, if_neg hn]
  by_cases w : letB c = true
  · rw [if_pos w]; simp only [goodB, w]
    refine ⟨fun _ => rfl, fun h => by simp at h⟩
  rw [if_neg w, if_neg ha]
  by_cases q : signB c = true
  · rw [if_pos q]; simp only [goodB, q]
    refine ⟨fun _ => rfl, fun h => by simp at h⟩
  rw [if_neg q]
  have : goodB c = false := by simp [goodB, b, w, q]
  rw [this]
  exact ⟨fun h => by simp at h, fun _ => rfl⟩

theorem good_big (c : UInt8) (n : Nat) (hn : n ≤ 31) (s : ByteArray) (hs : A s = head n ++ [c, 32, 98]) :
    ∃ ts a f, Ev (fun k => toke_Tokens.f k s) (ts, a, f) ∧ (goodB c = true → f = 0) ∧ (goodB c = false → f = 7 ∧ a = ((2 * n : Nat) : Int)) := by
  have hsz : s.size = 2 * n + 3 := by rw [← A_len, hs, List.length_append, head_len]; rfl
  have ht := toke_tokens s (by omega)
  rw [hs] at ht
  obtain ⟨ts, hts⟩ := scan_head n (s.size + 1) 0 [c, 32, 98] (by rw [hsz]; simp)
  rw [hts] at ht
  have h4 := scan_tail c (0 + 2 * n)
  rw [Nat.zero_add] at h4
  simp only [List.length_cons, List.length_nil, Nat.zero_add] at ht
  generalize scan 4 (2 * n) [c, 32, 98] = x at *
  by_cases g : goodB c = true
  · have := h4.1 g
    unfold fin at ht; simp only [this] at ht
    exact ⟨_, _, _, ht, fun _ => rfl, fun h => by rw [g] at h; cases h⟩
  · have g' : goodB c = false := by simpa using g
    have := h4.2 g'
    unfold fin at ht; simp only [this] at ht
    exact ⟨_, _, _, ht, fun h => absurd h g, fun _ => ⟨rfl, rfl⟩⟩

/-- A row of k blanks: too long just above 100,000. -/
theorem blanks (l : List Int) (n : Nat) (hl : l.length = n) (hn : n ≤ 1000000) (h : ∀ x ∈ l, x = 32) :
    ∃ ts a f, Ev (fun k => toke_Tokens.f k (strOfNums l)) (ts, a, f) ∧ (f = 8 ↔ 100000 < n) := by
  have hA : A (strOfNums l) = l.map fun x => x.toNat.toUInt8 := rfl
  have hsz : (strOfNums l).size = n := by rw [← A_len, hA, List.length_map, hl]
  by_cases g : 100000 < n
  · exact ⟨_, _, _, toke_big _ (by omega), by simp [g]⟩
  · have ht := toke_tokens (strOfNums l) (by omega)
    have hb : ∀ (m p : Nat) (l : List Int), (∀ x ∈ l, x = 32) → scan m p (l.map fun x => x.toNat.toUInt8) = ([], none) := by
      intro m
      induction m with
      | zero => intro p l _; rfl
      | succ m ih =>
        intro p l h
        cases l with
        | nil => rfl
        | cons x l =>
          have hx : x = 32 := h x (List.mem_cons_self ..)
          subst hx
          simp only [List.map_cons, scan]
          rw [if_pos (show blankB (Int.toNat 32).toUInt8 = true by decide)]
          exact ih _ l fun y hy => h y (List.mem_cons_of_mem _ hy)
    rw [hA, hb _ _ _ h] at ht
    exact ⟨_, _, _, ht, by simp [g]⟩

theorem set_blank (n : Nat) : ∀ (j : Nat) (l : List Int), l.length = n → (∀ i, i < j → l.getD i 0 = 32) → j < n → (∀ i, i < j + 1 → (l.set j 32).getD i 0 = 32) := by
  intro j l hl h hj i hi
  rw [List.getD_eq_getElem?_getD, List.getElem?_set]
  by_cases e : j = i
  · rw [if_pos e, if_pos (by omega)]; rfl
  · rw [if_neg e, ← List.getD_eq_getElem?_getD]; exact h i (by omega)

theorem l1_ev (x1 x10 x11 : Int) (x12 : Bool) (n : Nat) (hn : n ≤ 1000000) (hg : x12 = true → x11 = 0) (hb : x12 = false → x11 = 7 ∧ x10 = wrap64 (2 * x1)) :
    ∀ (d j : Nat) (l : List Int), n - j = d → j ≤ n → l.length = n → (∀ i, i < j → l.getD i 0 = 32) → Ev (fun k => entaillaw6_TokeBytes.l1 k x1 (n : Int) x10 x11 x12 l (n : Int) (j : Int)) true
  | 0, j, l, hd, hj, hl, h => by
    obtain ⟨ts, a, f, hev, hf⟩ := blanks l n hl hn (by
      intro x hx
      obtain ⟨i, hi, rfl⟩ := List.getElem_of_mem hx
      have := h i (by omega)
      rw [List.getD_eq_getElem?_getD, List.getElem?_eq_getElem hi] at this
      exact this)
    refine Ev.step (f := fun k => (toke_Tokens.f k (strOfNums l)).bind fun bt247 => (if ((x11 == 0) == x12) = true then (if x12 = true then (if ((bt247.2.2 == 8) == (decide ((n : Int) > 100000))) = true then ((entaillaw6_awake.f k).bind fun t252 => (some t252)) else (none)) else (if x11 = 7 then (if x10 = (wrap64 (2 * x1)) then (if ((bt247.2.2 == 8) == (decide ((n : Int) > 100000))) = true then ((entaillaw6_awake.f k).bind fun t253 => (some t253)) else (none)) else (none)) else (none))) else (none))) (fun k => ?_) ?_
    · simp only [entaillaw6_TokeBytes.l1]; rw [if_neg (by omega)]
    · refine Ev.bind (f := fun k bt247 => (if ((x11 == 0) == x12) = true then (if x12 = true then (if ((bt247.2.2 == 8) == (decide ((n : Int) > 100000))) = true then ((entaillaw6_awake.f k).bind fun t252 => (some t252)) else (none)) else (if x11 = 7 then (if x10 = (wrap64 (2 * x1)) then (if ((bt247.2.2 == 8) == (decide ((n : Int) > 100000))) = true then ((entaillaw6_awake.f k).bind fun t253 => (some t253)) else (none)) else (none)) else (none))) else (none))) hev ?_
      have hw : Ev (fun k => (entaillaw6_awake.f k).bind fun t => some t) true := Ev.bind (f := fun _ t => some t) awake_ev (Ev.now _)
      have e8 : ((f == 8) == decide ((n : Int) > 100000)) = true := by
        by_cases g : 100000 < n
        · rw [beq_iff_eq.2 (hf.2 g), decide_eq_true (show (n : Int) > 100000 by omega)]; rfl
        · rw [beq_eq_false_iff_ne.2 (fun e => g (hf.1 e)), decide_eq_false (show ¬ (n : Int) > 100000 by omega)]; rfl
      simp only [e8, if_true]
      cases x12 with
      | true => have := hg rfl; subst this; simpa using hw
      | false =>
        obtain ⟨h7, h10⟩ := hb rfl
        subst h7; subst h10
        simpa using hw
  | d + 1, j, l, hd, hj, hl, h => by
    have ih := l1_ev x1 x10 x11 x12 n hn hg hb d (j + 1) (l.set j 32) (by omega) (by omega) (by rw [List.length_set]; exact hl) (set_blank n j l hl h (by omega))
    refine Ev.step (f := fun k => entaillaw6_TokeBytes.l1 k x1 (n : Int) x10 x11 x12 (l.set j 32) (n : Int) ((j + 1 : Nat) : Int)) (fun k => ?_) ih
    simp only [entaillaw6_TokeBytes.l1]
    rw [if_pos (by omega), if_pos (by omega), if_pos (by omega), wrap_id (by omega) (by omega)]
    rfl

theorem j1_ev (x1 x10 x11 : Int) (x12 : Bool) (n : Nat) (hn : n ≤ 1000000) (hg : x12 = true → x11 = 0) (hb : x12 = false → x11 = 7 ∧ x10 = wrap64 (2 * x1)) :
    Ev (fun k => entaillaw6_TokeBytes.j1 k x1 (n : Int) x10 x11 x12) true := by
  have h := l1_ev x1 x10 x11 x12 n hn hg hb n 0 (List.replicate n 0) (by omega) (by omega) (by simp) (fun i hi => absurd hi (by omega))
  refine Ev.step (f := fun k => entaillaw6_TokeBytes.l1 k x1 (n : Int) x10 x11 x12 (List.replicate n 0) (n : Int) ((0 : Nat) : Int)) (fun k => ?_) h
  simp only [entaillaw6_TokeBytes.j1]
  rw [if_pos (by omega), if_pos (by omega)]
  simp only [Option.bind_some, Int.toNat_natCast, List.length_replicate]
  rfl

/-- What the statement asks of the byte, as it is typed there. -/
theorem asks (c : UInt8) (k : Nat → Bool → Option Bool) (hk : Ev (fun n => k n (goodB c)) true) :
    Ev (fun n => (if (c.toNat : Int) = 32 then (k n true) else (if (c.toNat : Int) = 9 then (k n true) else (if (c.toNat : Int) = 10 then (k n true) else (if (c.toNat : Int) = 13 then (k n true) else (if (c.toNat : Int) ≥ 97 then (if (c.toNat : Int) ≤ 122 then (k n true) else (if (c.toNat : Int) ≥ 48 then (if (c.toNat : Int) ≤ 57 then (k n true) else (if (c.toNat : Int) = 95 then (k n true) else ((entailref1_Find.f n SG (c.toNat : Int) 0).bind fun t239 => (k n (decide (t239 ≥ 0)))))) else (if (c.toNat : Int) = 95 then (k n true) else ((entailref1_Find.f n SG (c.toNat : Int) 0).bind fun t240 => (k n (decide (t240 ≥ 0))))))) else (if (c.toNat : Int) ≥ 48 then (if (c.toNat : Int) ≤ 57 then (k n true) else (if (c.toNat : Int) = 95 then (k n true) else ((entailref1_Find.f n SG (c.toNat : Int) 0).bind fun t241 => (k n (decide (t241 ≥ 0)))))) else (if (c.toNat : Int) = 95 then (k n true) else ((entailref1_Find.f n SG (c.toNat : Int) 0).bind fun t242 => (k n (decide (t242 ≥ 0)))))))))))) true := by
  obtain ⟨q, hq, hqs⟩ := find_sign c
  have hF : (blankB c = false) → (letB c = false) → Ev (fun n => (entailref1_Find.f n SG (c.toNat : Int) 0).bind fun t => k n (decide (t ≥ 0))) true := by
    intro b w
    refine Ev.bind (f := fun n t => k n (decide (t ≥ 0))) hq ?_
    have : goodB c = decide (q ≥ 0) := by
      simp only [goodB, b, w, Bool.false_or]
      by_cases g : signB c = true
      · have : ¬ q < 0 := by rw [hqs, g]; decide
        rw [g]; simp; omega
      · have g' : signB c = false := by simpa using g
        have : q < 0 := hqs.2 g'
        rw [g']; simp; omega
    rw [← this]; exact hk
  have hT : (blankB c = true ∨ letB c = true) → Ev (fun n => k n true) true := by
    intro h
    have : goodB c = true := by rcases h with h | h <;> simp [goodB, h]
    rw [this] at hk; exact hk
  have bT : (c.toNat = 32 ∨ c.toNat = 9 ∨ c.toNat = 10 ∨ c.toNat = 13) → blankB c = true := fun h => by unfold blankB; exact decide_eq_true h
  have bF : ¬ (c.toNat = 32 ∨ c.toNat = 9 ∨ c.toNat = 10 ∨ c.toNat = 13) → blankB c = false := fun h => by unfold blankB; exact decide_eq_false h
  have wT : ((97 ≤ c.toNat ∧ c.toNat ≤ 122) ∨ (48 ≤ c.toNat ∧ c.toNat ≤ 57) ∨ c.toNat = 95) → letB c = true := fun h => by unfold letB; exact decide_eq_true h
  have wF : ¬ ((97 ≤ c.toNat ∧ c.toNat ≤ 122) ∨ (48 ≤ c.toNat ∧ c.toNat ≤ 57) ∨ c.toNat = 95) → letB c = false := fun h => by unfold letB; exact decide_eq_false h
  by_cases h1 : (c.toNat : Int) = 32
  · simp only [if_pos h1]; exact hT (.inl (bT (by omega)))
  by_cases h2 : (c.toNat : Int) = 9
  · simp only [if_neg h1, if_pos h2]; exact hT (.inl (bT (by omega)))
  by_cases h3 : (c.toNat : Int) = 10
  · simp only [if_neg h1, if_neg h2, if_pos h3]; exact hT (.inl (bT (by omega)))
  by_cases h4 : (c.toNat : Int) = 13
  · simp only [if_neg h1, if_neg h2, if_neg h3, if_pos h4]; exact hT (.inl (bT (by omega)))
  simp only [if_neg h1, if_neg h2, if_neg h3, if_neg h4]
  by_cases h5 : (c.toNat : Int) ≥ 97
  · simp only [if_pos h5]
    by_cases h6 : (c.toNat : Int) ≤ 122
    · simp only [if_pos h6]; exact hT (.inr (wT (by omega)))
    · simp only [if_neg h6, if_pos (show (c.toNat : Int) ≥ 48 by omega), if_neg (show ¬ (c.toNat : Int) ≤ 57 by omega), if_neg (show ¬ (c.toNat : Int) = 95 by omega)]
      exact hF (bF (by omega)) (wF (by omega))
  · simp only [if_neg h5]
    by_cases h7 : (c.toNat : Int) ≥ 48
    · simp only [if_pos h7]
      by_cases h8 : (c.toNat : Int) ≤ 57
      · simp only [if_pos h8]; exact hT (.inr (wT (by omega)))
      · simp only [if_neg h8]
        by_cases h9 : (c.toNat : Int) = 95
        · simp only [if_pos h9]; exact hT (.inr (wT (by omega)))
        · simp only [if_neg h9]; exact hF (bF (by omega)) (wF (by omega))
    · simp only [if_neg h7, if_neg (show ¬ (c.toNat : Int) = 95 by omega)]
      exact hF (bF (by omega)) (wF (by omega))

theorem l0_ev (c : UInt8) (x1 m : Nat) (hx : x1 ≤ 31) (hm : m ≤ 1000000) : ∀ (d j : Nat) (s : ByteArray), x1 - j = d → j ≤ x1 → A s = head j →
    Ev (fun k => entaillaw6_TokeBytes.l0 k (c.toNat : Int) (x1 : Int) (m : Int) s (j : Int)) true
  | 0, j, s, hd, hj, hs => by
    have hsz : s.size = 2 * j := by rw [← A_len, hs, head_len]
    have ej : j = x1 := by omega
    subst ej
    have hnum : A (strOfNums [(c.toNat : Int)]) = [c] := by
      show [((c.toNat : Int).toNat).toUInt8] = [c]
      rw [Int.toNat_natCast]; simp
    have hns : (strOfNums [(c.toNat : Int)]).size = 1 := by rw [← A_len, hnum]; rfl
    have hall : A ((s ++ strOfNums [(c.toNat : Int)]) ++ ⟨#[32, 98]⟩) = head j ++ [c, 32, 98] := by
      rw [A_append, A_append, hs, hnum, List.append_assoc]; rfl
    obtain ⟨ts, a, f, hev, hg, hb⟩ := good_big c j hx _ hall
    have hjv := j1_ev (j : Int) a f (goodB c) m hm hg (fun h => by
      obtain ⟨h1, h2⟩ := hb h
      refine ⟨h1, ?_⟩
      rw [h2, wrap_id (by omega) (by omega)]; omega)
    have ha := asks c (fun n b => entaillaw6_TokeBytes.j1 n (j : Int) (m : Int) a f b) hjv
    obtain ⟨K1, hK1⟩ := hev
    obtain ⟨K2, hK2⟩ := ha
    refine ⟨max K1 K2 + 1, fun k hk => ?_⟩
    obtain ⟨k, rfl⟩ : ∃ i, k = i + 1 := ⟨k - 1, by omega⟩
    have q1 : toke_Tokens.f k ((s ++ strOfNums [(c.toNat : Int)]) ++ ⟨#[32, 98]⟩) = some (ts, a, f) := hK1 k (by omega)
    have q2 := hK2 k (by omega)
    simp only [entaillaw6_TokeBytes.l0]
    rw [if_neg (by omega)]
    simp only [Option.bind_some]
    rw [if_pos (by omega), if_pos (by rw [ByteArray.size_append]; omega)]
    rw [q1]
    exact q2
  | d + 1, j, s, hd, hj, hs => by
    have hsz : s.size = 2 * j := by rw [← A_len, hs, head_len]
    have ih := l0_ev c x1 m hx hm d (j + 1) (s ++ ⟨#[97, 32]⟩) (by omega) (by omega) (by rw [A_append, hs]; rfl)
    refine Ev.step (f := fun k => entaillaw6_TokeBytes.l0 k (c.toNat : Int) (x1 : Int) (m : Int) (s ++ ⟨#[97, 32]⟩) ((j + 1 : Nat) : Int)) (fun k => ?_) ih
    simp only [entaillaw6_TokeBytes.l0]
    rw [if_pos (by omega), if_pos (by omega), wrap_id (by omega) (by omega)]
    rfl

theorem TokeBytes : entaillaw6_TokeBytes.Pure := by
  intro a0 a1 a2 w0 _ _
  have hb : 0 ≤ a0 ∧ a0 ≤ 255 := by simp [Lit.wf, IntKind.min, IntKind.max, IntKind.signed, IntKind.bits] at w0; omega
  obtain ⟨c, rfl⟩ : ∃ c : UInt8, a0 = (c.toNat : Int) := ⟨UInt8.ofNat a0.toNat, by rw [UInt8.toNat_ofNat']; omega⟩
  refine Ev.rounds (g := fun k => entaillaw6_TokeBytes.f k (c.toNat : Int) a1 a2) ?_
  obtain ⟨n, hn⟩ : ∃ n : Nat, (n : Int) = a1 % 32 := ⟨(a1 % 32).toNat, by omega⟩
  obtain ⟨m, hm⟩ : ∃ m : Nat, (m : Int) = 99990 + a2 % 32 := ⟨(99990 + a2 % 32).toNat, by omega⟩
  refine Ev.congr (f := fun k => entaillaw6_TokeBytes.l0 k (c.toNat : Int) (n : Int) (m : Int) ⟨#[]⟩ ((0 : Nat) : Int)) (fun k => ?_) (l0_ev c n m (by omega) (by omega) n 0 ⟨#[]⟩ (by omega) (by omega) rfl)
  unfold entaillaw6_TokeBytes.f
  rw [Num.and31, Num.and31, wrap_id (by omega) (by omega), ← hn, ← hm]
  rfl

end Go.Proofs.Ytjgjcbhkalcjoaa.PureBytes
namespace Go.Proofs.Ytjgjcbhkalcjoaa.Pure
theorem TokeBytes : P.entaillaw6_TokeBytes.Pure := PureBytes.TokeBytes
end Go.Proofs.Ytjgjcbhkalcjoaa.Pure
