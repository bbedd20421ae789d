/- Laws of the plain scan: a name, a sign, a note, a blank at the beginning; tokens are pieces of the text, behind each other. -/
import Derived.Test.YtjgjcbhkalcjoaaTokMore
namespace Go.Proofs.Ytjgjcbhkalcjoaa.Tok
open Go.RowKit Go.Proofs.Ytjgjcbhkalcjoaa.P Go.Proofs.YtjgjcbhkalcjoaaW.PrintWords Go.Proofs.YtjgjcbhkalcjoaaW.PrintLast

theorem takeWhile_all {p : UInt8 → Bool} : ∀ (w r : List UInt8), (∀ c ∈ w, p c = true) → (∀ c, r.head? = some c → p c = false) → (w ++ r).takeWhile p = w
  | [], [], _, _ => rfl
  | [], c :: r, _, h => by rw [List.nil_append, List.takeWhile_cons, h c rfl]; rfl
  | c :: w, r, h, k => by
    rw [List.cons_append, List.takeWhile_cons, if_pos (h c (List.mem_cons_self ..)), takeWhile_all w r (fun d hd => h d (List.mem_cons_of_mem _ hd)) k]

theorem let_not_blank {c : UInt8} (h : letB c = true) : ¬ blankB c = true := by
  unfold letB at h; unfold blankB
  have := of_decide_eq_true h
  intro g
  have := of_decide_eq_true g
  omega
theorem let_not_47 {c : UInt8} (h : letB c = true) : c ≠ 47 := by
  rintro rfl; exact absurd h (by decide)
theorem sign_facts : ∀ c : UInt8, signB c = true → blankB c = false ∧ letB c = false ∧ c ≠ 47 := by
  intro c h
  have : c ∈ signs := by unfold signB at h; simpa using h
  simp only [signs, List.mem_cons, List.not_mem_nil, or_false] at this
  rcases this with rfl | rfl | rfl | rfl | rfl | rfl | rfl | rfl | rfl | rfl | rfl | rfl <;> decide

section
variable (N p : Nat)

theorem scan_blank (c : UInt8) (r : List UInt8) (h : (c :: r).length < N) (hb : blankB c = true) : scan N p (c :: r) = scan N (p + 1) r := by
  obtain ⟨M, rfl⟩ : ∃ M, N = M + 1 := ⟨N - 1, by omega⟩
  simp only [List.length_cons] at h
  rw [scan_more (M + 1) M (p + 1) r (by omega) (by omega)]
  simp only [scan, if_pos hb]

theorem scan_word (w r : List UInt8) (h : (w ++ r).length < N) (hw : w ≠ []) (ha : ∀ c ∈ w, letB c = true) (hr : ∀ c, r.head? = some c → letB c = false) :
    scan N p (w ++ r) = (⟨1, p, ⟨w.toArray⟩⟩ :: (scan N (p + w.length) r).1, (scan N (p + w.length) r).2) := by
  obtain ⟨M, rfl⟩ : ∃ M, N = M + 1 := ⟨N - 1, by omega⟩
  obtain ⟨c, v, rfl⟩ : ∃ c v, w = c :: v := by
    cases w with
    | nil => exact absurd rfl hw
    | cons c v => exact ⟨c, v, rfl⟩
  have hc := ha c (List.mem_cons_self ..)
  have ht : (v ++ r).takeWhile letB = v := takeWhile_all v r (fun d hd => ha d (List.mem_cons_of_mem _ hd)) hr
  simp only [List.length_append, List.length_cons] at h
  rw [scan_more (M + 1) M (p + (c :: v).length) r (by omega) (by omega), List.cons_append]
  simp only [scan]
  rw [if_neg (let_not_blank hc), if_neg (by simp [let_not_47 hc]), if_pos hc, ht, List.drop_left, show p + 1 + v.length = p + (c :: v).length by rw [List.length_cons]; omega]

theorem scan_arrow (r : List UInt8) (h : (45 :: 62 :: r).length < N) :
    scan N p (45 :: 62 :: r) = (⟨2, p, ⟨#[45, 62]⟩⟩ :: (scan N (p + 2) r).1, (scan N (p + 2) r).2) := by
  obtain ⟨M, rfl⟩ : ∃ M, N = M + 1 := ⟨N - 1, by omega⟩
  simp only [List.length_cons] at h
  rw [scan_more (M + 1) M (p + 2) r (by omega) (by omega)]
  simp only [scan]
  rw [if_neg (show ¬ blankB 45 = true by decide), if_neg (by simp), if_neg (show ¬ letB 45 = true by decide), if_pos (by simp)]
  rfl

theorem scan_sign (c : UInt8) (r : List UInt8) (h : (c :: r).length < N) (hc : signB c = true) (hr : ¬ (c = 45 ∧ r.head? = some 62)) :
    scan N p (c :: r) = (⟨2, p, ⟨#[c]⟩⟩ :: (scan N (p + 1) r).1, (scan N (p + 1) r).2) := by
  obtain ⟨M, rfl⟩ : ∃ M, N = M + 1 := ⟨N - 1, by omega⟩
  simp only [List.length_cons] at h
  obtain ⟨h1, h2, h3⟩ := sign_facts c hc
  rw [scan_more (M + 1) M (p + 1) r (by omega) (by omega)]
  simp only [scan]
  rw [if_neg (by rw [h1]; decide), if_neg (by simp [h3]), if_neg (by rw [h2]; decide), if_neg (by simpa using hr), if_pos hc]

theorem scan_note (v r : List UInt8) (h : (47 :: 47 :: (v ++ 10 :: r)).length < N) (hv : ∀ c ∈ v, c ≠ 10) :
    scan N p (47 :: 47 :: (v ++ 10 :: r)) = scan N (p + v.length + 3) r := by
  obtain ⟨M, rfl⟩ : ∃ M, N = M + 1 := ⟨N - 1, by omega⟩
  simp only [List.length_cons, List.length_append] at h
  have ht : toNl (47 :: 47 :: (v ++ 10 :: r)) = 47 :: 47 :: v := by
    unfold toNl
    rw [List.takeWhile_cons, List.takeWhile_cons]
    have := takeWhile_all (p := fun c => !(c == 10)) v (10 :: r) (fun c hc => by simp [hv c hc]) (fun c hc => by simp at hc; simp [← hc])
    rw [this]; simp
  have hs : scan (M + 1) p (47 :: 47 :: (v ++ 10 :: r)) = scan M (p + (v.length + 2)) (10 :: r) := by
    simp only [scan]
    rw [if_neg (show ¬ blankB 47 = true by decide), if_pos (by simp), ht]
    simp
  rw [hs, scan_more M (M + 1) (p + (v.length + 2)) (10 :: r) (by simp only [List.length_cons]; omega) (by simp only [List.length_cons]; omega), scan_blank (M + 1) _ 10 r (by simp only [List.length_cons]; omega) (by decide)]
  congr 1
end

/-- What a token may be. -/
def Valid (t : S30) : Prop := (t.f0 = 1 ∧ A t.f2 ≠ [] ∧ ∀ c ∈ A t.f2, letB c = true) ∨ (t.f0 = 2 ∧ (A t.f2 = [45, 62] ∨ ∃ c, A t.f2 = [c] ∧ signB c = true))

theorem scan_valid : ∀ (n p : Nat) (l : List UInt8), ∀ t ∈ (scan n p l).1, Valid t
  | 0, _, _, t, h => by simp [scan] at h
  | n + 1, p, [], t, h => by simp [scan] at h
  | n + 1, p, c :: r, t, h => by
    simp only [scan] at h
    by_cases b : blankB c = true
    · rw [if_pos b] at h; exact scan_valid n _ _ t h
    rw [if_neg b] at h
    by_cases g : (c == 47 && r.head? == some 47) = true
    · rw [if_pos g] at h; exact scan_valid n _ _ t h
    rw [if_neg g] at h
    by_cases w : letB c = true
    · rw [if_pos w] at h
      rcases List.mem_cons.1 h with rfl | h
      · refine .inl ⟨rfl, by simp [A], fun d hd => ?_⟩
        have hd' : d ∈ c :: r.takeWhile letB := hd
        rcases List.mem_cons.1 hd' with rfl | hd'
        · exact w
        · exact List.all_takeWhile (l := r) (p := letB) |> fun h => (List.all_eq_true.1 h) d hd'
      · exact scan_valid n _ _ t h
    rw [if_neg w] at h
    by_cases a : (c == 45 && r.head? == some 62) = true
    · rw [if_pos a] at h
      rcases List.mem_cons.1 h with rfl | h
      · exact .inr ⟨rfl, .inl rfl⟩
      · exact scan_valid n _ _ t h
    rw [if_neg a] at h
    by_cases q : signB c = true
    · rw [if_pos q] at h
      rcases List.mem_cons.1 h with rfl | h
      · exact .inr ⟨rfl, .inr ⟨c, rfl, q⟩⟩
      · exact scan_valid n _ _ t h
    rw [if_neg q] at h; simp at h

/-- Tokens are pieces of the text L, behind each other and behind place e. -/
def Chain (L : List UInt8) : Nat → List S30 → Prop
  | _, [] => True
  | e, t :: ts => ∃ a : Nat, t.f1 = (a : Int) ∧ e ≤ a ∧ A t.f2 = (L.drop a).take (A t.f2).length ∧ a + (A t.f2).length ≤ L.length ∧ Chain L (a + (A t.f2).length) ts

theorem chain_mono {L : List UInt8} {e f : Nat} (h : f ≤ e) : ∀ {ts : List S30}, Chain L e ts → Chain L f ts
  | [], _ => trivial
  | _ :: _, ⟨a, h1, h2, h3⟩ => ⟨a, h1, by omega, h3⟩

theorem scan_chain (L : List UInt8) : ∀ (n p : Nat) (l : List UInt8), L.drop p = l → p ≤ L.length → Chain L p (scan n p l).1
  | 0, _, _, _, _ => trivial
  | n + 1, p, [], _, _ => trivial
  | n + 1, p, c :: r, h, hp => by
    have hd : L.drop (p + 1) = r := drop_succ h
    have hlen : (c :: r).length = L.length - p := by rw [← h, List.length_drop]
    simp only [List.length_cons] at hlen
    simp only [scan]
    by_cases b : blankB c = true
    · rw [if_pos b]; exact chain_mono (Nat.le_succ p) (scan_chain L n (p + 1) r hd (by omega))
    rw [if_neg b]
    by_cases g : (c == 47 && r.head? == some 47) = true
    · rw [if_pos g]
      have hle : (toNl (c :: r)).length ≤ (c :: r).length := List.Sublist.length_le (List.takeWhile_sublist _)
      simp only [List.length_cons] at hle
      exact chain_mono (Nat.le_add_right p _) (scan_chain L n _ _ (by rw [← List.drop_drop, h]) (by omega))
    rw [if_neg g]
    by_cases w : letB c = true
    · rw [if_pos w]
      have hle : (r.takeWhile letB).length ≤ r.length := List.Sublist.length_le (List.takeWhile_sublist _)
      have ih := scan_chain L n (p + 1 + (r.takeWhile letB).length) (r.drop (r.takeWhile letB).length) (by rw [← hd, List.drop_drop]) (by omega)
      have e1 : (A (⟨(c :: r.takeWhile letB).toArray⟩ : ByteArray)) = c :: r.takeWhile letB := rfl
      refine ⟨p, rfl, Nat.le_refl p, ?_, ?_, ?_⟩
      · simp only [e1, List.length_cons]
        rw [h, List.take_succ_cons]
        congr 1
        exact List.prefix_iff_eq_take.1 (List.takeWhile_prefix letB)
      · simp only [e1, List.length_cons]; omega
      · simp only [e1, List.length_cons]
        rw [show p + ((r.takeWhile letB).length + 1) = p + 1 + (r.takeWhile letB).length by omega]
        exact ih
    rw [if_neg w]
    by_cases a : (c == 45 && r.head? == some 62) = true
    · rw [if_pos a]
      have e45 : c = 45 := by simp at a; exact a.1
      have e62 : r.head? = some 62 := by simp at a; exact a.2
      obtain ⟨r2, rfl⟩ : ∃ r2, r = 62 :: r2 := by
        cases r with
        | nil => simp at e62
        | cons b r2 => simp at e62; exact ⟨r2, by rw [e62]⟩
      simp only [List.length_cons] at hlen
      refine ⟨p, rfl, Nat.le_refl p, ?_, ?_, ?_⟩
      · rw [h, e45]; rfl
      · show p + 2 ≤ _; omega
      · exact scan_chain L n (p + 2) r2 (drop_succ hd) (by omega)
    rw [if_neg a]
    by_cases q : signB c = true
    · rw [if_pos q]
      refine ⟨p, rfl, Nat.le_refl p, ?_, ?_, ?_⟩
      · rw [h]; rfl
      · show p + 1 ≤ _; omega
      · exact scan_chain L n (p + 1) r hd (by omega)
    rw [if_neg q]; trivial

end Go.Proofs.Ytjgjcbhkalcjoaa.Tok
