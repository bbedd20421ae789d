/- Tokens are pieces of the text, behind each other; what stands between says nothing, and more of it neither. -/
import Derived.Test.YtjgjcbhkalcjoaaPx8
import Derived.Test.YtjgjcbhkalcjoaaTokLaws
namespace Go.Proofs.Ytjgjcbhkalcjoaa.PureParts
open Go.RowKit Go.Proofs.Ytjgjcbhkalcjoaa.P Go.Proofs.YtjgjcbhkalcjoaaW.PrintWords Go.Proofs.YtjgjcbhkalcjoaaW.PrintLast Go.Proofs.Ytjgjcbhkalcjoaa.Tok

/-! ### the drawn text is a row of tokens -/

/-- Whatever place it stands at, it is a row of tokens; and no half of an arrow stands first. -/
def Safe (l : List UInt8) : Prop := (∀ N p, l.length < N → (scan N p l).2 = none) ∧ l.head? ≠ some 62

theorem safe_nil : Safe [] := ⟨fun N p _ => by cases N <;> rfl, by simp⟩
theorem safe_drop {l : List UInt8} (h : Safe l) : ∀ N p, (l.dropWhile letB).length < N → (scan N p (l.dropWhile letB)).2 = none := by
  intro N p hN
  have hsplit : l.takeWhile letB ++ l.dropWhile letB = l := List.takeWhile_append_dropWhile
  by_cases e : l.takeWhile letB = []
  · rw [e, List.nil_append] at hsplit
    rw [hsplit] at hN ⊢; exact h.1 N p hN
  · have hall : ∀ c ∈ l.takeWhile letB, letB c = true := fun c hc => (List.all_eq_true.1 List.all_takeWhile) c hc
    have hd : ∀ c, (l.dropWhile letB).head? = some c → letB c = false := by
      intro c hc
      have := List.head?_dropWhile_not letB l
      rw [hc] at this; simpa using this
    have hs := scan_word (l.length + N + 1) p (l.takeWhile letB) (l.dropWhile letB) (by rw [hsplit]; omega) e hall hd
    rw [hsplit] at hs
    have h1 := h.1 (l.length + N + 1) p (by omega)
    rw [hs] at h1
    -- the place does not matter
    have place : ∀ (n a b : Nat) (m : List UInt8), (scan n a m).2 = none → (scan n b m).2 = none := by
      intro n
      induction n with
      | zero => intro a b m h; simp [scan]
      | succ n ih =>
        intro a b m h
        cases m with
        | nil => simp [scan]
        | cons c r =>
          simp only [scan] at h ⊢
          by_cases x1 : blankB c = true
          · rw [if_pos x1] at h ⊢; exact ih _ _ _ h
          rw [if_neg x1] at h ⊢
          by_cases x2 : (c == 47 && r.head? == some 47) = true
          · rw [if_pos x2] at h ⊢; exact ih _ _ _ h
          rw [if_neg x2] at h ⊢
          by_cases x3 : letB c = true
          · rw [if_pos x3] at h ⊢; exact ih _ _ _ h
          rw [if_neg x3] at h ⊢
          by_cases x4 : (c == 45 && r.head? == some 62) = true
          · rw [if_pos x4] at h ⊢; exact ih _ _ _ h
          rw [if_neg x4] at h ⊢
          by_cases x5 : signB c = true
          · rw [if_pos x5] at h ⊢; exact ih _ _ _ h
          rw [if_neg x5] at h; simp at h
    have hle : (l.dropWhile letB).length ≤ l.length := List.Sublist.length_le (List.dropWhile_sublist _)
    rw [scan_more N (l.length + N + 1) p _ hN (by omega)]
    exact place _ _ _ _ h1

theorem safe_blank {l : List UInt8} (h : Safe l) (c : UInt8) (hc : blankB c = true) : Safe (c :: l) := by
  refine ⟨fun N p hN => ?_, ?_⟩
  · rw [scan_blank N p c l hN hc]; exact h.1 N _ (by simp only [List.length_cons] at hN; omega)
  · intro e; simp at e; subst e; exact absurd hc (by decide)
theorem safe_let {l : List UInt8} (h : Safe l) (c : UInt8) (hc : letB c = true) : Safe (c :: l) := by
  refine ⟨fun N p hN => ?_, ?_⟩
  · have hsplit : (c :: l.takeWhile letB) ++ l.dropWhile letB = c :: l := by rw [List.cons_append, List.takeWhile_append_dropWhile]
    have hs := scan_word N p (c :: l.takeWhile letB) (l.dropWhile letB) (by rw [hsplit]; exact hN) (by simp) (by
      intro d hd
      rcases List.mem_cons.1 hd with rfl | hd
      · exact hc
      · exact (List.all_eq_true.1 List.all_takeWhile) d hd) (by
      intro d hd
      have := List.head?_dropWhile_not letB l
      rw [hd] at this; simpa using this)
    rw [hsplit] at hs
    rw [hs]
    have hle : (l.dropWhile letB).length ≤ l.length := List.Sublist.length_le (List.dropWhile_sublist _)
    exact safe_drop h N _ (by simp only [List.length_cons] at hN; omega)
  · intro e; simp at e; subst e; exact absurd hc (by decide)
theorem safe_sign {l : List UInt8} (h : Safe l) (c : UInt8) (hc : signB c = true) : Safe (c :: l) := by
  refine ⟨fun N p hN => ?_, ?_⟩
  · rw [scan_sign N p c l hN hc (fun x => h.2 x.2)]; exact h.1 N _ (by simp only [List.length_cons] at hN; omega)
  · intro e; simp at e; subst e; exact absurd hc (by decide)
theorem safe_arrow {l : List UInt8} (h : Safe l) : Safe (45 :: 62 :: l) := by
  refine ⟨fun N p hN => ?_, by simp⟩
  rw [scan_arrow N p l hN]; exact h.1 N _ (by simp only [List.length_cons] at hN; omega)
theorem safe_note {l : List UInt8} (h : Safe l) : Safe (47 :: 47 :: 120 :: 10 :: l) := by
  refine ⟨fun N p hN => ?_, by simp⟩
  have hs := scan_note N p [120] l hN (by intro c hc; simp at hc; subst hc; decide)
  show (scan N p (47 :: 47 :: ([120] ++ 10 :: l))).2 = none
  rw [hs]; exact h.1 N _ (by simp only [List.length_cons] at hN; omega)

/-- Blanks, letters and signs ahead of what is a row of tokens. -/
theorem safe_plain {l : List UInt8} (h : Safe l) : ∀ w : List UInt8, (∀ c ∈ w, blankB c = true ∨ letB c = true ∨ signB c = true) → Safe (w ++ l)
  | [], _ => h
  | c :: w, hw => by
    have ih := safe_plain h w fun d hd => hw d (List.mem_cons_of_mem _ hd)
    rcases hw c (List.mem_cons_self ..) with g | g | g
    · exact safe_blank ih c g
    · exact safe_let ih c g
    · exact safe_sign ih c g

theorem pieces_plain : ∀ i : Fin 24, i.val ≠ 18 → i.val ≠ 19 → ∀ c ∈ A (pieces.getD i.val ByteArray.empty), blankB c = true ∨ letB c = true ∨ signB c = true := by decide +kernel
theorem piece_18 : A (pieces.getD 18 ByteArray.empty) = [45, 62] := rfl
theorem piece_19 : A (pieces.getD 19 ByteArray.empty) = [47, 47, 120, 10] := rfl

theorem safe_piece {l : List UInt8} (h : Safe l) (i : Fin 24) : Safe (A (pieces.getD i.val ByteArray.empty) ++ l) := by
  by_cases e : i.val = 18
  · rw [e, piece_18]; exact safe_arrow h
  by_cases e2 : i.val = 19
  · rw [e2, piece_19]; exact safe_note h
  exact safe_plain h _ (pieces_plain i e e2)

theorem drawn_safe {n : Nat} {t : ByteArray} (h : Drawn n t) : ∀ l, Safe l → Safe (A t ++ l) := by
  induction h with
  | none => intro l hl; exact hl
  | more i h ih => intro l hl; rw [A_append, List.append_assoc]; exact ih _ (safe_piece hl i)

/-! ### the text that is built anew -/

def sepsB : List ByteArray := [(⟨#[32]⟩ : ByteArray), (⟨#[10]⟩ : ByteArray), (⟨#[32, 9]⟩ : ByteArray), (⟨#[47, 47, 32, 97, 32, 110, 111, 116, 101, 13, 10]⟩ : ByteArray)]
def sepL (j : Nat) : List UInt8 := A (sepsB.getD (j % 4) ByteArray.empty)

theorem sep_cases (j : Nat) : sepL j = [32] ∨ sepL j = [10] ∨ sepL j = [32, 9] ∨ sepL j = 47 :: 47 :: ([32, 97, 32, 110, 111, 116, 101, 13] ++ 10 :: []) := by
  have : j % 4 = 0 ∨ j % 4 = 1 ∨ j % 4 = 2 ∨ j % 4 = 3 := by omega
  unfold sepL
  rcases this with h | h | h | h <;> rw [h]
  · left; rfl
  · right; left; rfl
  · right; right; left; rfl
  · right; right; right; rfl

theorem sep_len (j : Nat) : (sepL j).length ≤ 11 := by
  rcases sep_cases j with h | h | h | h <;> rw [h] <;> decide
theorem sep_head (j : Nat) (r : List UInt8) : ∀ c, (sepL j ++ r).head? = some c → letB c = false ∧ c ≠ 62 := by
  intro c hc
  rcases sep_cases j with h | h | h | h <;> rw [h] at hc <;> simp at hc <;> subst hc <;> decide

theorem scan_sep (N p j : Nat) (r : List UInt8) (h : (sepL j ++ r).length < N) : ∃ q, scan N p (sepL j ++ r) = scan N q r := by
  rcases sep_cases j with e | e | e | e <;> rw [e] at h ⊢
  · exact ⟨_, scan_blank N p 32 r h (by decide)⟩
  · exact ⟨_, scan_blank N p 10 r h (by decide)⟩
  · refine ⟨p + 1 + 1, ?_⟩
    have h1 := scan_blank N p 32 (9 :: r) h (by decide)
    have h2 := scan_blank N (p + 1) 9 r (by simp only [List.cons_append, List.nil_append, List.length_cons] at h ⊢; omega) (by decide)
    show scan N p (32 :: 9 :: r) = _
    rw [h1, h2]
  · have h1 := scan_note N p [32, 97, 32, 110, 111, 116, 101, 13] r (by simpa using h) (by decide)
    exact ⟨_, by simpa using h1⟩

/-- The text of tokens ts, the first of them the j-th, each with what stands behind it. -/
def build (m : Nat) : Nat → List S30 → List UInt8
  | _, [] => []
  | j, t :: ts => A t.f2 ++ (sepL (j + m) ++ build m (j + 1) ts)

theorem build_len (m : Nat) (L : List UInt8) : ∀ (ts : List S30) (j e : Nat), Chain L e ts → (∀ t ∈ ts, Valid t) → e ≤ L.length → (build m j ts).length ≤ 12 * (L.length - e)
  | [], _, _, _, _, _ => by simp [build]
  | t :: ts, j, e, ⟨a, _, h2, _, h4, h5⟩, hv, he => by
    have ih := build_len m L ts (j + 1) _ h5 (fun x hx => hv x (List.mem_cons_of_mem _ hx)) h4
    have hs := sep_len (j + m)
    have hpos : 1 ≤ (A t.f2).length := by
      rcases hv t (List.mem_cons_self ..) with ⟨_, h, _⟩ | ⟨_, h | ⟨c, h, _⟩⟩
      · cases hA : A t.f2 with
        | nil => exact absurd hA h
        | cons c r => simp
      · rw [h]; decide
      · rw [h]; simp
    simp only [build, List.length_append]
    omega

/-- A token that may be, and behind it neither a letter nor '>'. -/
theorem scan_tok (N p : Nat) (t : S30) (r : List UInt8) (ht : Valid t) (hr : ∀ c, r.head? = some c → letB c = false ∧ c ≠ 62) (h : (A t.f2 ++ r).length < N) :
    scan N p (A t.f2 ++ r) = (⟨t.f0, p, t.f2⟩ :: (scan N (p + (A t.f2).length) r).1, (scan N (p + (A t.f2).length) r).2) := by
  obtain ⟨k, at_, w⟩ := t
  rcases ht with ⟨h0, h1, h2⟩ | ⟨h0, h1 | ⟨c, h1, h2⟩⟩
  · simp only at h0 h1 h2 h ⊢
    subst h0
    have hw : (⟨(A w).toArray⟩ : ByteArray) = w := A_inj rfl
    rw [scan_word N p (A w) r h h1 h2 (fun c hc => (hr c hc).1), hw]
  · simp only at h0 h1 h ⊢
    subst h0
    have hw : (⟨#[45, 62]⟩ : ByteArray) = w := A_inj (by rw [h1]; rfl)
    rw [h1] at h ⊢
    rw [← hw]
    exact scan_arrow N p r h
  · simp only at h0 h1 h ⊢
    subst h0
    have hw : (⟨#[c]⟩ : ByteArray) = w := A_inj (by rw [h1]; rfl)
    rw [h1] at h ⊢
    rw [← hw]
    exact scan_sign N p c r h h2 (fun x => (hr 62 x.2).2 rfl)

/-- The text that is built has the same tokens, kind by kind and text by text. -/
def Alike (a b : List S30) : Prop := a.map (fun t => (t.f0, t.f2)) = b.map (fun t => (t.f0, t.f2))

theorem scan_build (m N : Nat) : ∀ (ts : List S30) (j p : Nat), (∀ t ∈ ts, Valid t) → (build m j ts).length < N →
    ∃ us, scan N p (build m j ts) = (us, none) ∧ Alike us ts
  | [], j, p, _, h => ⟨[], by obtain ⟨M, rfl⟩ : ∃ M, N = M + 1 := ⟨N - 1, by omega⟩; exact ⟨rfl, rfl⟩⟩
  | t :: ts, j, p, hv, h => by
    simp only [build] at h ⊢
    have h' := h
    simp only [List.length_append] at h'
    rw [scan_tok N p t _ (hv t (List.mem_cons_self ..)) (sep_head _ _) h]
    obtain ⟨q, hq⟩ := scan_sep N (p + (A t.f2).length) (j + m) (build m (j + 1) ts) (by rw [List.length_append]; omega)
    obtain ⟨us, hu, ha⟩ := scan_build m N ts (j + 1) q (fun x hx => hv x (List.mem_cons_of_mem _ hx)) (by omega)
    rw [hq, hu]
    refine ⟨⟨t.f0, p, t.f2⟩ :: us, rfl, ?_⟩
    unfold Alike at ha ⊢
    rw [List.map_cons, List.map_cons, ha]

theorem alike_len {a b : List S30} (h : Alike a b) : a.length = b.length := by
  have := congrArg List.length h; simpa using this
theorem alike_at {a b : List S30} (h : Alike a b) (i : Nat) (hi : i < a.length) : (a.getD i z30).f0 = (b.getD i z30).f0 ∧ (a.getD i z30).f2 = (b.getD i z30).f2 := by
  have hl := alike_len h
  have := congrArg (fun l => l[i]?) h
  simp only [List.getElem?_map] at this
  rw [List.getElem?_eq_getElem hi, List.getElem?_eq_getElem (by omega)] at this
  simp only [Option.map_some, Option.some.injEq, Prod.mk.injEq] at this
  rw [List.getD_eq_getElem?_getD, List.getD_eq_getElem?_getD, List.getElem?_eq_getElem hi, List.getElem?_eq_getElem (by omega)]
  exact this

/-! ### the statement's two loops -/

theorem last_ev (x5 x12 : List S30) (ha : Alike x12 x5) (hl : x5.length ≤ 100000) : ∀ (d j : Nat), x12.length - j = d → j ≤ x12.length → Ev (fun k => entaillaw6_TokeParts.l1 k x5 x12 (j : Int)) true
  | 0, j, hd, hj => by
    refine Ev.step (f := fun k => (entaillaw6_awake.f k).bind fun t => some t) (fun k => ?_) (Ev.bind (f := fun _ t => some t) awake_ev (Ev.now _))
    simp only [entaillaw6_TokeParts.l1]; rw [if_neg (by omega)]
  | d + 1, j, hd, hj => by
    have hlen := alike_len ha
    obtain ⟨h1, h2⟩ := alike_at ha j (by omega)
    refine Ev.step (f := fun k => entaillaw6_TokeParts.l1 k x5 x12 ((j + 1 : Nat) : Int)) (fun k => ?_) (last_ev x5 x12 ha hl d (j + 1) (by omega) (by omega))
    simp only [entaillaw6_TokeParts.l1]
    have e1 : ∀ l : List S30, rd_T30 l (j : Int) = l.getD j z30 := fun l => by unfold rd_T30; rw [Int.toNat_natCast]
    rw [if_pos (by omega), if_pos (by omega), if_pos (by omega), e1, e1, if_pos h1, if_pos (by rw [h2]), wrap_id (by omega) (by omega)]
    rfl

theorem end_ev (x0 : ByteArray) (x1 : List Int) (x5 : List S30) (hv : ∀ t ∈ x5, Valid t) (hl : x5.length ≤ 100000) (x8 : Int) (u : ByteArray) (hu : A u = build x1.length 0 x5) (hs : u.size ≤ 100000) :
    Ev (fun k => entaillaw6_TokeParts.l0 k x0 x1 x5 x8 u ((x5.length : Nat) : Int)) true := by
  have ht := toke_tokens u hs
  obtain ⟨us, h1, h2⟩ := scan_build x1.length (u.size + 1) x5 0 0 hv (by rw [← hu, A_len]; omega)
  rw [hu, h1] at ht
  have hla := last_ev x5 us h2 hl us.length 0 (by omega) (by omega)
  have hlen := alike_len h2
  refine Ev.step (f := fun k => (toke_Tokens.f k u).bind fun bt221 => (if bt221.2.2 = 0 then (entaillaw6_TokeParts.j1 k x5 bt221.1 ((bt221.1.length : Int) != (x5.length : Int))) else (entaillaw6_TokeParts.j1 k x5 bt221.1 true))) (fun k => ?_) ?_
  · simp only [entaillaw6_TokeParts.l0]; rw [if_neg (by omega)]
  · refine Ev.bind (f := fun k bt221 => (if bt221.2.2 = 0 then (entaillaw6_TokeParts.j1 k x5 bt221.1 ((bt221.1.length : Int) != (x5.length : Int))) else (entaillaw6_TokeParts.j1 k x5 bt221.1 true))) ht ?_
    simp only [fin, List.nil_append, if_true]
    rw [hlen, bne_self_eq_false]
    refine Ev.step (f := fun k => entaillaw6_TokeParts.l1 k x5 us ((0 : Nat) : Int)) (fun k => ?_) hla
    simp only [entaillaw6_TokeParts.j1]
    rw [if_neg (by decide)]; rfl

theorem sep_pick (n : Nat) (c : Prop) [Decidable c] (hc : c) (r : Option Bool) :
    (if (0 : Int) ≤ ((n % 4 : Nat) : Int) then (if ((n % 4 : Nat) : Int) < ((sepsB.length : Nat) : Int) then (if c then r else none) else none) else none) = r := by
  have h4 : sepsB.length = 4 := rfl
  rw [h4, if_pos (by omega), if_pos (by omega), if_pos hc]

theorem round_ev (x0 : ByteArray) (hx0 : x0.size ≤ 800) (x1 : List Int) (hx1 : x1.length ≤ 1000000000000000) (x5 : List S30) (hv : ∀ t ∈ x5, Valid t) (hl : x5.length ≤ 800) (hb : (build x1.length 0 x5).length ≤ 100000) :
    ∀ (ts : List S30) (j e : Nat) (u : ByteArray), x5.drop j = ts → j ≤ x5.length → Chain (A x0) e ts → A u ++ build x1.length j ts = build x1.length 0 x5 →
      Ev (fun k => entaillaw6_TokeParts.l0 k x0 x1 x5 (e : Int) u (j : Int)) true
  | [], j, e, u, hd, hj, _, hu => by
    have hjl : j = x5.length := by
      have := congrArg List.length hd
      rw [List.length_drop] at this; simp at this; omega
    subst hjl
    simp only [build, List.append_nil] at hu
    exact end_ev x0 x1 x5 hv (by omega) _ u hu (by rw [← A_len, hu]; exact hb)
  | t :: ts, j, e, u, hd, hj, ⟨a, h1, h2, h3, h4, h5⟩, hu => by
    have hjlt : j < x5.length := by
      have := congrArg List.length hd
      rw [List.length_drop, List.length_cons] at this; omega
    have hat : rd_T30 x5 (j : Int) = t := by
      unfold rd_T30
      rw [Int.toNat_natCast, List.getD_eq_getElem?_getD]
      have := congrArg (fun l => l[0]?) hd
      simp only [List.getElem?_drop, Nat.add_zero, List.getElem?_cons_zero] at this
      rw [this]; rfl
    have htv : Valid t := hv t (by
      have : t ∈ x5.drop j := by rw [hd]; exact List.mem_cons_self ..
      exact List.mem_of_mem_drop this)
    have hlA : (A x0).length = x0.size := A_len x0
    have hpos : 1 ≤ (A t.f2).length := by
      rcases htv with ⟨_, h, _⟩ | ⟨_, h | ⟨c, h, _⟩⟩
      · cases hA : A t.f2 with
        | nil => exact absurd hA h
        | cons c r => simp
      · rw [h]; decide
      · rw [h]; simp
    have hts : (t.f2).size = (A t.f2).length := (A_len _).symm
    obtain ⟨s, hsdef⟩ : ∃ s : ByteArray, s = sepsB.getD ((j + x1.length) % 4) ByteArray.empty := ⟨_, rfl⟩
    have hsA : A s = sepL (j + x1.length) := by rw [hsdef]; rfl
    have hsl : s.size ≤ 11 := by rw [← A_len, hsA]; exact sep_len _
    have hu2 : A (u ++ t.f2 ++ s) ++ build x1.length (j + 1) ts = build x1.length 0 x5 := by
      rw [A_append, A_append, hsA, List.append_assoc, List.append_assoc]
      simpa [build] using hu
    have hus : u.size ≤ 100000 := by
      have := congrArg List.length hu
      rw [List.length_append, A_len] at this; omega
    have ih := round_ev x0 hx0 x1 hx1 x5 hv hl hb ts (j + 1) (a + (A t.f2).length) (u ++ t.f2 ++ s) (drop_succ hd) (by omega) h5 hu2
    refine Ev.step (f := fun k => entaillaw6_TokeParts.l0 k x0 x1 x5 ((a + (A t.f2).length : Nat) : Int) (u ++ t.f2 ++ s) ((j + 1 : Nat) : Int)) (fun k => ?_) ih
    have hend : wrap64 (t.f1 + (t.f2.size : Int)) = ((a + (A t.f2).length : Nat) : Int) := by rw [h1, hts, wrap_id (by omega) (by omega)]; omega
    have hidx : Go.bits .and .i64 (wrap64 ((j : Int) + (x1.length : Int))) 3 = (((j + x1.length) % 4 : Nat) : Int) := by
      rw [Num.and3, wrap_id (by omega) (by omega)]; omega
    have hrd : rdOf ByteArray.empty sepsB (((j + x1.length) % 4 : Nat) : Int) = s := by
      unfold rdOf; rw [Int.toNat_natCast, hsdef]
    have hcut : (x0.extract a (a + (A t.f2).length)).toList = t.f2.toList := by
      rw [A_toList, A_toList, A_cut, show a + (A t.f2).length - a = (A t.f2).length by omega]
      exact h3.symm
    simp only [entaillaw6_TokeParts.l0]
    rw [if_pos (by omega), if_pos (by omega), hat, hend, hidx, h1]
    simp only [Option.bind_some, Int.toNat_natCast]
    rw [if_neg (by omega), if_neg (by omega), if_neg (by omega), if_pos (by omega), if_pos (by omega), if_pos (by omega), if_pos hcut]
    have hlast : (if (0 : Int) ≤ (((j + x1.length) % 4 : Nat) : Int) then (if (((j + x1.length) % 4 : Nat) : Int) < ((sepsB.length : Nat) : Int) then (if (u ++ t.f2).size + (rdOf ByteArray.empty sepsB (((j + x1.length) % 4 : Nat) : Int)).size ≤ 9223372036854775807 then entaillaw6_TokeParts.l0 k x0 x1 x5 ((a + (A t.f2).length : Nat) : Int) ((u ++ t.f2) ++ rdOf ByteArray.empty sepsB (((j + x1.length) % 4 : Nat) : Int)) (wrap64 ((j : Int) + 1)) else none) else none) else none) = entaillaw6_TokeParts.l0 k x0 x1 x5 ((a + (A t.f2).length : Nat) : Int) (u ++ t.f2 ++ s) ((j + 1 : Nat) : Int) := by
      rw [hrd, sep_pick _ _ (by rw [ByteArray.size_append]; omega), wrap_id (by omega) (by omega)]
      rfl
    rcases htv with ⟨k1, _⟩ | ⟨k2, _⟩
    · rw [if_pos k1, if_pos (by omega)]
      exact hlast
    · rw [if_neg (by omega), if_pos k2, if_pos (by omega)]
      exact hlast

theorem TokeParts : entaillaw6_TokeParts.Pure := by
  intro s x1 _ _ h1 _
  refine Ev.rounds (g := fun k => entaillaw6_TokeParts.f k s x1) ?_
  by_cases h : (s.size : Int) > 200
  · refine Ev.congr (f := fun k => (entaillaw6_awake.f k).bind fun t => some t) (fun k => ?_) (Ev.bind (f := fun _ t => some t) awake_ev (Ev.now _))
    unfold entaillaw6_TokeParts.f; rw [if_pos h]
  · obtain ⟨m, t, h3, h4, h5⟩ := tame_ev s (by omega)
    have hts := h4.size
    have hsafe := (drawn_safe h4 [] safe_nil).1 (t.size + 1) 0 (by rw [List.append_nil, A_len]; omega)
    rw [List.append_nil] at hsafe
    have htok := toke_tokens t (by omega)
    have hval := scan_valid (t.size + 1) 0 (A t)
    have hch := scan_chain (A t) (t.size + 1) 0 (A t) rfl (by omega)
    have hlen := scan_len (t.size + 1) 0 (A t)
    rw [A_len] at hlen
    generalize scan (t.size + 1) 0 (A t) = x at *
    obtain ⟨ts, e⟩ := x
    simp only at hsafe hval hch hlen
    subst hsafe
    have hbl := build_len x1.length (A t) ts 0 0 hch hval (by omega)
    rw [A_len] at hbl
    have hr := round_ev t (by omega) x1 (by omega) ts hval (by omega) (by omega) ts 0 0 ⟨#[]⟩ rfl (by omega) hch rfl
    refine Ev.congr (f := fun k => (entaillaw6_Tame.f k s).bind fun t205 => ((toke_Tokens.f k t205).bind fun bt206 => (if bt206.2.2 = 0 then (entaillaw6_TokeParts.l0 k t205 x1 bt206.1 0 (⟨#[]⟩ : ByteArray) 0) else (none)))) (fun k => ?_) ?_
    · unfold entaillaw6_TokeParts.f; rw [if_neg h]
    · refine Ev.bind (f := fun k t205 => ((toke_Tokens.f k t205).bind fun bt206 => (if bt206.2.2 = 0 then (entaillaw6_TokeParts.l0 k t205 x1 bt206.1 0 (⟨#[]⟩ : ByteArray) 0) else (none)))) h3 ?_
      refine Ev.bind (f := fun k bt206 => (if bt206.2.2 = 0 then (entaillaw6_TokeParts.l0 k t x1 bt206.1 0 (⟨#[]⟩ : ByteArray) 0) else (none))) htok ?_
      simp only [fin, List.nil_append, if_true]
      exact hr

end Go.Proofs.Ytjgjcbhkalcjoaa.PureParts
namespace Go.Proofs.Ytjgjcbhkalcjoaa.Pure
theorem TokeParts : P.entaillaw6_TokeParts.Pure := PureParts.TokeParts
end Go.Proofs.Ytjgjcbhkalcjoaa.Pure
