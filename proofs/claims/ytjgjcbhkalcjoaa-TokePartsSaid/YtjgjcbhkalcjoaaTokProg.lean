/- The program's tokens are those of the plain scan. -/
import Derived.Test.YtjgjcbhkalcjoaaTokRef
namespace Go.Proofs.Ytjgjcbhkalcjoaa.Tok
open Go.RowKit Go.Proofs.Ytjgjcbhkalcjoaa.P Go.Proofs.YtjgjcbhkalcjoaaW.PrintWords Go.Proofs.YtjgjcbhkalcjoaaW.PrintLast

theorem hasPrefix_eq (a b : ByteArray) : strings_HasPrefix.f a b = some (decide ((A a).take b.size = A b)) := by
  unfold strings_HasPrefix.f stringslite_HasPrefix.f
  by_cases h : (a.size : Int) ≥ (b.size : Int)
  · rw [if_pos h, if_pos (by omega), if_pos (by omega)]
    simp only [Option.bind_some, Option.some.injEq, Int.toNat_natCast]
    rw [A_toList, A_toList, A_cut, List.drop_zero, Nat.sub_zero, Bool.eq_iff_iff]
    simp
  · rw [if_neg h]
    simp only [Option.bind_some, Option.some.injEq]
    have : ¬ ((A a).take b.size = A b) := by
      intro e
      have := congrArg List.length e
      rw [List.length_take, A_len, A_len] at this
      omega
    simp [this]

theorem index_one (a : ByteArray) (c : UInt8) : strings_Index.f a ⟨⟨[c]⟩⟩ = some (Lib.indexByte (A a) c) := rfl
theorem contains_one (a : ByteArray) (c : UInt8) : strings_Contains.f a ⟨⟨[c]⟩⟩ = some (decide (c ∈ A a)) := by
  unfold strings_Contains.f
  rw [index_one]
  simp only [Option.bind_some, Option.some.injEq]
  rw [Bool.eq_iff_iff]
  simp only [decide_eq_true_eq, ge_iff_le]
  exact indexByte_mem c (A a)

theorem index_toNl : ∀ (l : List UInt8), (10 ∈ l → Lib.indexByte l 10 = ((toNl l).length : Int)) ∧ (¬ 10 ∈ l → Lib.indexByte l 10 = -1 ∧ toNl l = l)
  | [] => by simp [Lib.indexByte, toNl]
  | b :: l => by
    obtain ⟨h1, h2⟩ := index_toNl l
    by_cases e : b = 10
    · subst e
      rw [indexByte_hit 10 10 l rfl]
      simp [toNl]
    · have e' : ¬ (10 : UInt8) = b := fun x => e x.symm
      have hl : toNl (b :: l) = b :: toNl l := by unfold toNl; rw [List.takeWhile_cons]; simp [e]
      rw [indexByte_miss b 10 l e, hl]
      by_cases g : (10 : UInt8) ∈ l
      · have h3 := h1 g
        rw [h3, if_neg (by omega)]
        simp [e', g]
      · obtain ⟨h3, h4⟩ := h2 g
        rw [h3, h4]
        simp [e', g]

theorem take_note (c : UInt8) (r : List UInt8) : (decide ((c :: r).take 2 = [47, 47])) = (c == 47 && r.head? == some 47) := by
  cases r with
  | nil => simp
  | cons b r => by_cases h1 : c = 47 <;> by_cases h2 : b = 47 <;> simp [h1, h2]
theorem take_arrow (c : UInt8) (r : List UInt8) : (decide ((c :: r).take 2 = [45, 62])) = (c == 45 && r.head? == some 62) := by
  cases r with
  | nil => simp
  | cons b r => by_cases h1 : c = 45 <;> by_cases h2 : b = 62 <;> simp [h1, h2]

theorem blank_mem (c : UInt8) : decide (c ∈ ([32, 9, 13, 10] : List UInt8)) = blankB c := by
  unfold blankB
  rw [Bool.eq_iff_iff]
  simp only [List.mem_cons, List.not_mem_nil, or_false, decide_eq_true_eq]
  have h : ∀ d : UInt8, c = d ↔ c.toNat = d.toNat := fun d => ⟨fun e => by rw [e], fun e => UInt8.toNat_inj.1 e⟩
  rw [h, h, h, h]
  show c.toNat = 32 ∨ c.toNat = 9 ∨ c.toNat = 13 ∨ c.toNat = 10 ↔ _
  omega
theorem sign_mem (c : UInt8) : decide (c ∈ signs) = signB c := by
  unfold signB; simp

theorem skipL_nil (n : Nat) : skipL n [] = 0 := by cases n <;> rfl
theorem skip_l0 (s : ByteArray) (hs : s.size ≤ 100000) : ∀ (n p : Nat) (l : List UInt8), (A s).drop p = l → p ≤ s.size → l.length < n →
    Ev (fun k => toke_skip.l0 k s (p : Int)) ((p + skipL n l : Nat) : Int)
  | 0, _, _, _, _, h => absurd h (by omega)
  | n + 1, p, [], h, hp, hn => by
    have hA : A (s.extract p s.size) = [] := by rw [A_from, h]
    refine Ev.step (f := fun _ => some (p : Int)) (fun k => ?_) (Ev.now _)
    simp only [toke_skip.l0]
    rw [if_pos (by omega), if_pos (by omega), hasPrefix_eq]
    simp only [Int.toNat_natCast, Option.bind_some, hA]
    rw [if_neg (by decide), A_toList, hA, if_pos rfl]
  | n + 1, p, c :: r, h, hp, hn => by
    have hlt := lt_drop h
    have hA : A (s.extract p s.size) = c :: r := by rw [A_from, h]
    have hlen : (c :: r).length = s.size - p := by rw [← h, List.length_drop, A_len]
    simp only [List.length_cons] at hn hlen
    have step : ∀ k, toke_skip.l0 (k + 1) s (p : Int) = if (c == 47 && r.head? == some 47) = true then (if Lib.indexByte (c :: r) 10 < 0 then some (s.size : Int) else toke_skip.l0 k s (wrap64 ((p : Int) + Lib.indexByte (c :: r) 10))) else if blankB c = true then toke_skip.l0 k s ((p + 1 : Nat) : Int) else some (p : Int) := by
      intro k
      simp only [toke_skip.l0]
      rw [if_pos (by omega), if_pos (by omega), hasPrefix_eq]
      simp only [Int.toNat_natCast, Option.bind_some, hA]
      rw [show decide (List.take (ByteArray.size ⟨#[47, 47]⟩) (c :: r) = A ⟨#[47, 47]⟩) = (c == 47 && r.head? == some 47) from take_note c r]
      by_cases g : (c == 47 && r.head? == some 47) = true
      · rw [if_pos g, if_pos g, show strings_Index.f (s.extract p s.size) ⟨#[10]⟩ = some (Lib.indexByte (A (s.extract p s.size)) 10) from rfl, hA]
        simp only [Option.bind_some]
      · rw [if_neg g, if_neg g, A_toList, hA, if_neg (by simp), if_pos (by decide)]
        have hsz : (s.extract p s.size).size = s.size - p := by rw [← A_len, hA, List.length_cons, hlen]
        rw [if_pos (by rw [hsz]; omega)]
        have hx : (s.extract p s.size).extract 0 1 = ⟨⟨[c]⟩⟩ := by apply A_inj; rw [A_cut, hA]; rfl
        rw [hx, contains_one]
        simp only [Option.bind_some]
        rw [show decide (c ∈ A ⟨#[32, 9, 13, 10]⟩) = blankB c from blank_mem c, wrap_id (by omega) (by omega)]; rfl
    by_cases g : (c == 47 && r.head? == some 47) = true
    · simp only [skipL, if_pos g]
      obtain ⟨h1, h2⟩ := index_toNl (c :: r)
      by_cases m : (10 : UInt8) ∈ c :: r
      · have h3 := h1 m
        have hle : (toNl (c :: r)).length ≤ (c :: r).length := List.Sublist.length_le (List.takeWhile_sublist _)
        simp only [List.length_cons] at hle
        have hpos : 1 ≤ (toNl (c :: r)).length := by
          have : c = 47 := by simp at g; exact g.1
          unfold toNl; rw [List.takeWhile_cons]; simp [this]
        refine Ev.step (f := fun k => toke_skip.l0 k s ((p + (toNl (c :: r)).length : Nat) : Int)) (fun k => ?_) ?_
        · rw [step, if_pos g, h3, if_neg (by omega), wrap_id (by omega) (by omega)]; rfl
        · have ih := skip_l0 s hs n (p + (toNl (c :: r)).length) _ (by rw [← List.drop_drop, h]) (by omega) (by rw [List.length_drop, List.length_cons]; omega)
          rw [Nat.add_assoc] at ih
          exact ih
      · obtain ⟨h3, h4⟩ := h2 m
        refine Ev.step (f := fun _ => some (s.size : Int)) (fun k => ?_) ?_
        · rw [step, if_pos g, h3, if_pos (by decide)]
        · rw [h4, List.drop_length, skipL_nil, Nat.add_zero, show p + (c :: r).length = s.size by rw [List.length_cons]; omega]
          exact Ev.now _
    · simp only [skipL, if_neg g]
      by_cases b : blankB c = true
      · simp only [if_pos b]
        refine Ev.step (f := fun k => toke_skip.l0 k s ((p + 1 : Nat) : Int)) (fun k => ?_) ?_
        · rw [step, if_neg g, if_pos b]
        · have ih := skip_l0 s hs n (p + 1) r (drop_succ h) (by omega) (by omega)
          rw [Nat.add_assoc] at ih
          exact ih
      · simp only [if_neg b]
        refine Ev.step (f := fun _ => some (p : Int)) (fun k => ?_) (Ev.now _)
        rw [step, if_neg g, if_neg b]

theorem row_l0 (s : ByteArray) (hs : s.size ≤ 100000) : ∀ (l : List UInt8) (p : Nat), (A s).drop p = l → p ≤ s.size →
    Ev (fun k => toke_row.l0 k s (p : Int)) ((p + (l.takeWhile letB).length : Nat) : Int)
  | [], p, h, hp => by
    have := drop_nil_of h hp
    refine Ev.step (f := fun _ => some (p : Int)) (fun k => ?_) (Ev.now _)
    simp only [toke_row.l0]; rw [if_neg (by omega)]
  | c :: r, p, h, hp => by
    have hlt := lt_drop h
    by_cases g : letB c = true
    · refine Ev.step (f := fun k => toke_row.l0 k s ((p + 1 : Nat) : Int)) (fun k => ?_) ?_
      · simp only [toke_row.l0]
        rw [if_pos (by omega), if_pos (by omega), bt_drop h, letter_eq, g]
        simp only [Option.bind_some, if_true]
        rw [wrap_id (by omega) (by omega)]; rfl
      · have ih := row_l0 s hs r (p + 1) (drop_succ h) (by omega)
        rw [List.takeWhile_cons, if_pos g, List.length_cons, show p + ((r.takeWhile letB).length + 1) = p + 1 + (r.takeWhile letB).length by omega]
        exact ih
    · refine Ev.step (f := fun _ => some (p : Int)) (fun k => ?_) ?_
      · simp only [toke_row.l0]
        rw [if_pos (by omega), if_pos (by omega), bt_drop h, letter_eq, show letB c = false by simpa using g]
        rfl
      · rw [List.takeWhile_cons, if_neg g]; exact Ev.now _

theorem next_let (a : ByteArray) (ha : a.size ≤ 100000) (c : UInt8) (r : List UInt8) (h : A a = c :: r) (g : letB c = true) :
    Ev (fun k => toke_next.f k a) (1, 0, ⟨(c :: r.takeWhile letB).toArray⟩, true) := by
  have hr := row_l0 a ha (c :: r) 0 h (by omega)
  rw [List.takeWhile_cons, if_pos g, List.length_cons, Nat.zero_add] at hr
  have hle : (r.takeWhile letB).length ≤ r.length := List.Sublist.length_le (List.takeWhile_sublist _)
  have hsz : a.size = r.length + 1 := by rw [← A_len, h, List.length_cons]
  unfold toke_next.f toke_row.f
  refine Ev.bind (g := fun k => toke_row.l0 k a 0) hr ?_
  refine Ev.congr (f := fun _ => some (1, 0, ⟨(c :: r.takeWhile letB).toArray⟩, true)) (fun k => ?_) (Ev.now _)
  rw [if_pos (by omega), if_pos (by omega), if_pos (by omega)]
  simp only [Int.toNat_natCast]
  have hx : a.extract 0 ((r.takeWhile letB).length + 1) = ⟨(c :: r.takeWhile letB).toArray⟩ := by
    apply A_inj
    rw [A_cut, h, List.drop_zero, Nat.sub_zero, List.take_succ_cons]
    show _ = c :: r.takeWhile letB
    congr 1
    exact (List.prefix_iff_eq_take.1 (List.takeWhile_prefix letB)).symm
  rw [hx]

theorem next_sign (a : ByteArray) (ha : a.size ≤ 100000) (c : UInt8) (r : List UInt8) (h : A a = c :: r) (g : ¬ letB c = true) :
    Ev (fun k => toke_next.f k a) (if (c == 45 && r.head? == some 62) = true then (2, 0, ⟨#[45, 62]⟩, true) else (2, 0, ⟨#[c]⟩, signB c)) := by
  have hr := row_l0 a ha (c :: r) 0 h (by omega)
  rw [List.takeWhile_cons, if_neg g, List.length_nil, Nat.add_zero] at hr
  have hsz : a.size = r.length + 1 := by rw [← A_len, h, List.length_cons]
  unfold toke_next.f toke_row.f
  refine Ev.bind (g := fun k => toke_row.l0 k a 0) hr ?_
  refine Ev.congr (f := fun _ => some (if (c == 45 && r.head? == some 62) = true then (2, 0, ⟨#[45, 62]⟩, true) else (2, 0, ⟨#[c]⟩, signB c))) (fun k => ?_) (Ev.now _)
  rw [if_neg (by decide), hasPrefix_eq]
  simp only [Option.bind_some, h]
  rw [show decide (List.take (ByteArray.size ⟨#[45, 62]⟩) (c :: r) = A ⟨#[45, 62]⟩) = (c == 45 && r.head? == some 62) from take_arrow c r]
  by_cases e : (c == 45 && r.head? == some 62) = true
  · rw [if_pos e, if_pos e]
  · rw [if_neg e, if_neg e, if_pos (by decide), if_pos (by omega)]
    have hx : a.extract 0 1 = ⟨⟨[c]⟩⟩ := by apply A_inj; rw [A_cut, h]; rfl
    rw [hx, contains_one]
    simp only [Option.bind_some]
    rw [show decide (c ∈ A ⟨#[123, 125, 58, 59, 124, 35, 61, 43, 45, 38, 40, 41]⟩) = signB c from sign_mem c]

/-- Nothing that says nothing stands at the beginning. -/
def clean (l : List UInt8) : Prop := match l with | [] => True | c :: r => blankB c = false ∧ (c == 47 && r.head? == some 47) = false
theorem skip_clean : ∀ (n : Nat) (l : List UInt8), l.length < n → clean (l.drop (skipL n l))
  | 0, _, h => absurd h (by omega)
  | n + 1, [], _ => by rw [skipL_nil]; trivial
  | n + 1, c :: r, h => by
    simp only [List.length_cons] at h
    by_cases g : (c == 47 && r.head? == some 47) = true
    · simp only [skipL, if_pos g]
      rw [← List.drop_drop]
      have hpos : 1 ≤ (toNl (c :: r)).length := by
        have : c = 47 := by simp at g; exact g.1
        unfold toNl; rw [List.takeWhile_cons]; simp [this]
      exact skip_clean n _ (by rw [List.length_drop, List.length_cons]; omega)
    · simp only [skipL, if_neg g]
      by_cases b : blankB c = true
      · simp only [if_pos b]
        rw [Nat.add_comm, List.drop_succ_cons]
        exact skip_clean n r (by omega)
      · simp only [if_neg b]
        exact ⟨by simpa using b, by simpa using g⟩
theorem skipL_le : ∀ (n : Nat) (l : List UInt8), skipL n l ≤ l.length
  | 0, _ => by simp [skipL]
  | n + 1, [] => by rw [skipL_nil]; simp
  | n + 1, c :: r => by
    by_cases g : (c == 47 && r.head? == some 47) = true
    · simp only [skipL, if_pos g]
      have := skipL_le n ((c :: r).drop (toNl (c :: r)).length)
      rw [List.length_drop] at this
      have hle : (toNl (c :: r)).length ≤ (c :: r).length := List.Sublist.length_le (List.takeWhile_sublist _)
      omega
    · simp only [skipL, if_neg g]
      by_cases b : blankB c = true
      · simp only [if_pos b]
        have := skipL_le n r
        simp only [List.length_cons]; omega
      · simp only [if_neg b]; omega

/-- A piece of a text has one scan, however many rounds there are above its length. -/
theorem scan_more : ∀ (n m p : Nat) (l : List UInt8), l.length < n → l.length < m → scan n p l = scan m p l
  | 0, _, _, _, h, _ => absurd h (by omega)
  | _ + 1, 0, _, _, _, h => absurd h (by omega)
  | n + 1, m + 1, p, [], _, _ => rfl
  | n + 1, m + 1, p, c :: r, h, k => by
    simp only [List.length_cons] at h k
    simp only [scan]
    have hpos : (c == 47 && r.head? == some 47) = true → 1 ≤ (toNl (c :: r)).length := by
      intro g
      have : c = 47 := by simp at g; exact g.1
      unfold toNl; rw [List.takeWhile_cons]; simp [this]
    by_cases b : blankB c = true
    · rw [if_pos b, if_pos b]; exact scan_more n m _ r (by omega) (by omega)
    rw [if_neg b, if_neg b]
    by_cases g : (c == 47 && r.head? == some 47) = true
    · rw [if_pos g, if_pos g]
      have := hpos g
      exact scan_more n m _ _ (by rw [List.length_drop, List.length_cons]; omega) (by rw [List.length_drop, List.length_cons]; omega)
    rw [if_neg g, if_neg g]
    by_cases w : letB c = true
    · rw [if_pos w, if_pos w, scan_more n m _ _ (by rw [List.length_drop]; omega) (by rw [List.length_drop]; omega)]
    rw [if_neg w, if_neg w]
    by_cases a : (c == 45 && r.head? == some 62) = true
    · rw [if_pos a, if_pos a, scan_more n m _ _ (by rw [List.length_drop]; omega) (by rw [List.length_drop]; omega)]
    rw [if_neg a, if_neg a]
    by_cases q : signB c = true
    · rw [if_pos q, if_pos q, scan_more n m _ _ (by omega) (by omega)]
    rw [if_neg q, if_neg q]

theorem blank_not_note {c : UInt8} (h : blankB c = true) (r : List UInt8) : ¬ (c == 47 && r.head? == some 47) = true := by
  intro g
  have : c = 47 := by simp at g; exact g.1
  subst this
  exact absurd h (by decide)

/-- What says nothing may be passed over first. -/
theorem scan_skip : ∀ (m p n k : Nat) (l : List UInt8), l.length < m → l.length < n → l.length - skipL m l < k → scan n p l = scan k (p + skipL m l) (l.drop (skipL m l))
  | 0, _, _, _, _, h, _, _ => absurd h (by omega)
  | m + 1, p, n, k, [], _, hn, hk => by
    rw [skipL_nil] at hk ⊢
    exact scan_more n k _ _ hn (by simpa using hk)
  | m + 1, p, 0, k, c :: r, _, hn, _ => absurd hn (by omega)
  | m + 1, p, n + 1, k, c :: r, h, hn, hk => by
    simp only [List.length_cons] at h hn hk
    by_cases b : blankB c = true
    · have g := blank_not_note b r
      simp only [skipL, if_neg g, if_pos b] at hk ⊢
      rw [show scan (n + 1) p (c :: r) = scan n (p + 1) r by simp only [scan, if_pos b]]
      rw [Nat.add_comm 1, List.drop_succ_cons, ← Nat.add_assoc, Nat.add_right_comm]
      exact scan_skip m (p + 1) n k r (by omega) (by omega) (by omega)
    by_cases g : (c == 47 && r.head? == some 47) = true
    · have hpos : 1 ≤ (toNl (c :: r)).length := by
        have : c = 47 := by simp at g; exact g.1
        unfold toNl; rw [List.takeWhile_cons]; simp [this]
      simp only [skipL, if_pos g] at hk ⊢
      rw [show scan (n + 1) p (c :: r) = scan n (p + (toNl (c :: r)).length) ((c :: r).drop (toNl (c :: r)).length) by simp only [scan, if_neg b, if_pos g]]
      rw [← List.drop_drop, ← Nat.add_assoc]
      exact scan_skip m _ n k _ (by rw [List.length_drop, List.length_cons]; omega) (by rw [List.length_drop, List.length_cons]; omega) (by rw [List.length_drop, List.length_cons]; omega)
    · simp only [skipL, if_neg g, if_neg b] at hk ⊢
      exact scan_more (n + 1) k _ _ (by simp only [List.length_cons]; omega) (by simp only [List.length_cons]; omega)

theorem tok_l0 (s : ByteArray) (hs : s.size ≤ 100000) : ∀ (n p : Nat) (l : List UInt8) (acc : List S30), (A s).drop p = l → p ≤ s.size → l.length < n → acc.length ≤ p → clean l →
    Ev (fun k => toke_Tokens.l0 k s acc (p : Int)) (fin acc (scan n p l))
  | 0, _, _, _, _, _, h, _, _ => absurd h (by omega)
  | n + 1, p, [], acc, h, hp, hn, ha, _ => by
    have hn' := drop_nil_of h hp
    refine Ev.step (f := fun _ => some (acc, 0, 0)) (fun k => ?_) ?_
    · simp only [toke_Tokens.l0]; rw [if_neg (by omega)]
    · unfold scan fin; simp only [List.append_nil]; exact Ev.now _
  | n + 1, p, c :: r, acc, h, hp, hn, ha, hc => by
    obtain ⟨hb, hg⟩ := hc
    have hlt := lt_drop h
    have hd := drop_succ h
    have hA : A (s.extract p s.size) = c :: r := by rw [A_from, h]
    have hlen : (c :: r).length = s.size - p := by rw [← h, List.length_drop, A_len]
    simp only [List.length_cons] at hn hlen
    have hsz : (s.extract p s.size).size ≤ 100000 := by rw [← A_len, hA, List.length_cons]; omega
    simp only [scan]
    rw [if_neg (by rw [hb]; decide), if_neg (by rw [hg]; decide)]
    -- behind a token
    have go : ∀ (m : Nat) (t : S30), 1 ≤ m → p + m ≤ s.size →
        Ev (fun k => (toke_skip.f k (s.extract (p + m) s.size)).bind fun t121 => toke_Tokens.l0 k s (acc ++ [t]) (wrap64 (((p + m : Nat) : Int) + t121))) (fin (acc ++ [t]) (scan n (p + m) ((A s).drop (p + m)))) := by
      intro m t h1 h2
      have e1 : A (s.extract (p + m) s.size) = (A s).drop (p + m) := A_from s (p + m)
      have l1 : ((A s).drop (p + m)).length = s.size - (p + m) := by rw [List.length_drop, A_len]
      have l2 : (s.extract (p + m) s.size).size = s.size - (p + m) := by rw [← A_len, e1, l1]
      have sk := skip_l0 (s.extract (p + m) s.size) (by omega) n 0 ((A s).drop (p + m)) (by rw [List.drop_zero, e1]) (by omega) (by omega)
      have le := skipL_le n ((A s).drop (p + m))
      refine Ev.bind (g := fun k => toke_skip.f k (s.extract (p + m) s.size)) (f := fun k t121 => toke_Tokens.l0 k s (acc ++ [t]) (wrap64 (((p + m : Nat) : Int) + t121))) sk ?_
      rw [wrap_id (by omega) (by omega)]
      rw [scan_skip n (p + m) n n ((A s).drop (p + m)) (by omega) (by omega) (by omega), List.drop_drop]
      have ih := tok_l0 s hs n (p + m + skipL n ((A s).drop (p + m))) _ (acc ++ [t]) rfl (by omega) (by rw [List.length_drop, A_len]; omega) (by rw [List.length_append]; simp; omega) (by have := skip_clean n ((A s).drop (p + m)) (by omega); rw [List.drop_drop] at this; exact this)
      have e2 : ((p + m : Nat) : Int) + ((0 + skipL n ((A s).drop (p + m)) : Nat) : Int) = ((p + m + skipL n ((A s).drop (p + m)) : Nat) : Int) := by omega
      rw [e2]
      exact ih
    have step : ∀ (kd : Int) (w : ByteArray) (m : Nat), w.size = m → 1 ≤ m → p + m ≤ s.size → ∀ k, toke_next.f k (s.extract p s.size) = some (kd, 0, w, true) →
        toke_Tokens.l0 (k + 1) s acc (p : Int) = (toke_skip.f k (s.extract (p + m) s.size)).bind fun t121 => toke_Tokens.l0 k s (acc ++ [⟨kd, p, w⟩]) (wrap64 (((p + m : Nat) : Int) + t121)) := by
      intro kd w m hw h1 h2 k hk
      simp only [toke_Tokens.l0]
      rw [if_pos (by omega), if_pos (by omega), if_pos (by omega)]
      simp only [Int.toNat_natCast]
      rw [hk]
      simp only [Option.bind_some, if_true]
      have hw2 : wrap64 ((p : Int) + (w.size : Int)) = ((p + m : Nat) : Int) := by rw [wrap_id (by omega) (by omega)]; omega
      rw [hw2, if_pos (by omega), if_pos (by omega), if_pos (by omega)]
      simp only [Int.toNat_natCast]
    have fe : ∀ (t : S30) (x : List S30 × Option Nat), fin (acc ++ [t]) x = fin acc (t :: x.1, x.2) := by
      intro t x; unfold fin; cases x.2 <;> simp
    have stepEv : ∀ (kd : Int) (w : ByteArray) (m : Nat), w.size = m → 1 ≤ m → p + m ≤ s.size → Ev (fun k => toke_next.f k (s.extract p s.size)) (kd, 0, w, true) →
        Ev (fun k => toke_Tokens.l0 k s acc (p : Int)) (fin (acc ++ [⟨kd, p, w⟩]) (scan n (p + m) ((A s).drop (p + m)))) := by
      intro kd w m hw h1 h2 hne
      obtain ⟨K1, hK1⟩ := hne
      obtain ⟨K2, hK2⟩ := go m ⟨kd, p, w⟩ h1 h2
      refine ⟨max K1 K2 + 1, fun k hk => ?_⟩
      obtain ⟨k, rfl⟩ : ∃ j, k = j + 1 := ⟨k - 1, by omega⟩
      show toke_Tokens.l0 (k + 1) s acc (p : Int) = _
      rw [step kd w m hw h1 h2 k (hK1 k (by omega))]
      exact hK2 k (by omega)
    by_cases hw : letB c = true
    · rw [if_pos hw]
      have hle : (r.takeWhile letB).length ≤ r.length := List.Sublist.length_le (List.takeWhile_sublist _)
      have hx := stepEv 1 ⟨(c :: r.takeWhile letB).toArray⟩ (1 + (r.takeWhile letB).length) (by show (c :: r.takeWhile letB).length = _; rw [List.length_cons]; omega) (by omega) (by omega) (next_let _ hsz c r hA hw)
      rw [fe, ← List.drop_drop, ← List.drop_drop, h, List.drop_succ_cons, List.drop_zero, ← Nat.add_assoc] at hx
      exact hx
    rw [if_neg hw]
    have hs2 := next_sign _ hsz c r hA hw
    by_cases ha2 : (c == 45 && r.head? == some 62) = true
    · rw [if_pos ha2] at hs2 ⊢
      have e62 : r.head? = some 62 := by simp at ha2; exact ha2.2
      have h1 : 1 ≤ r.length := by cases r with | nil => simp at e62 | cons b r => simp
      have hx := stepEv 2 ⟨#[45, 62]⟩ 2 rfl (by omega) (by omega) hs2
      rw [fe, ← List.drop_drop, h] at hx
      exact hx
    rw [if_neg ha2] at hs2 ⊢
    by_cases hq : signB c = true
    · rw [if_pos hq]; rw [hq] at hs2
      have hx := stepEv 2 ⟨#[c]⟩ 1 rfl (by omega) (by omega) hs2
      rw [fe, ← List.drop_drop, h] at hx
      exact hx
    · rw [if_neg hq]; rw [show signB c = false by simpa using hq] at hs2
      obtain ⟨K1, hK1⟩ := hs2
      refine ⟨K1 + 1, fun k hk => ?_⟩
      obtain ⟨k, rfl⟩ : ∃ j, k = j + 1 := ⟨k - 1, by omega⟩
      simp only [toke_Tokens.l0]
      rw [if_pos (by omega), if_pos (by omega), if_pos (by omega)]
      simp only [Int.toNat_natCast]
      rw [show toke_next.f k (s.extract p s.size) = _ from hK1 k (by omega)]
      rfl

/-- toke.Tokens: of a text that is not too long. -/
theorem toke_tokens (s : ByteArray) (hs : s.size ≤ 100000) : Ev (fun k => toke_Tokens.f k s) (fin [] (scan (s.size + 1) 0 (A s))) := by
  have sk := skip_l0 s hs (s.size + 1) 0 (A s) rfl (by omega) (by rw [A_len]; omega)
  have le := skipL_le (s.size + 1) (A s)
  rw [A_len] at le
  refine Ev.congr (f := fun k => (toke_skip.f k s).bind fun t112 => toke_Tokens.l0 k s [] t112) (fun k => ?_) ?_
  · unfold toke_Tokens.f; rw [if_neg (by omega)]
  · refine Ev.bind (g := fun k => toke_skip.f k s) (f := fun k t112 => toke_Tokens.l0 k s [] t112) sk ?_
    rw [scan_skip (s.size + 1) 0 (s.size + 1) (s.size + 1) (A s) (by rw [A_len]; omega) (by rw [A_len]; omega) (by rw [A_len]; omega)]
    exact tok_l0 s hs (s.size + 1) (0 + skipL (s.size + 1) (A s)) _ [] (by rw [Nat.zero_add]) (by omega) (by rw [List.length_drop, A_len]; omega) (by simp) (skip_clean _ _ (by rw [A_len]; omega))
/-- toke.Tokens: of a text that is too long. -/
theorem toke_big (s : ByteArray) (hs : 100000 < s.size) : Ev (fun k => toke_Tokens.f k s) ([], 0, 8) := by
  refine Ev.congr (f := fun _ => some ([], 0, 8)) (fun k => ?_) (Ev.now _)
  unfold toke_Tokens.f; rw [if_pos (by omega)]

end Go.Proofs.Ytjgjcbhkalcjoaa.Tok
