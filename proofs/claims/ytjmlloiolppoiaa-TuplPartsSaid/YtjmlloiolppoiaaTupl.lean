/- Tuples: what the program says of a tuple and of a text, as plain laws on bytes. -/
import Derived.Test.YtjmlloiolppoiaaAtom
import Derived.Test.YtjmlloiolppoiaaPx10
import Derived.Test.YtjmlloiolppoiaaPx11
import Derived.Test.YtjmlloiolppoiaaPx12
import Derived.Test.YtjmlloiolppoiaaPx15
namespace Go.Proofs.Ytjmlloiolppoiaa.Tupl
open Go.RowKit Go.Proofs.Ytjmlloiolppoiaa.P Go.Proofs.YtjmlloiolppoiaaW.PrintWords Go.Proofs.YtjmlloiolppoiaaW.PrintLast Go.Proofs.Ytjmlloiolppoiaa.Base Go.Proofs.Ytjmlloiolppoiaa.Atom

def okL (a b c d e f : List UInt8) : Bool := nameL a && (idL b && (nameL c && (nameL d && (idL e && (decide (f = []) || nameL f)))))
def textL (a b c d e f : List UInt8) : List UInt8 := a ++ 58 :: (b ++ 35 :: (c ++ 64 :: (d ++ 58 :: (e ++ (if f = [] then [] else 35 :: f)))))
def textR (a b c d e f : List UInt8) : List UInt8 := if okL a b c d e f = true then textL a b c d e f else []

theorem name_le {l : List UInt8} (h : nameL l = true) : l.length ≤ 30 ∧ 1 ≤ l.length := by
  unfold nameL at h
  rw [Bool.and_eq_true, Bool.and_eq_true] at h
  refine ⟨of_decide_eq_true h.1.1, ?_⟩
  cases l with
  | nil => exact absurd h.1.2 (by decide)
  | cons a r => rw [List.length_cons]; omega
theorem id_le {l : List UInt8} (h : idL l = true) : l.length ≤ 250 ∧ 1 ≤ l.length := by
  unfold idL at h
  rw [Bool.and_eq_true, Bool.and_eq_true] at h
  refine ⟨of_decide_eq_true h.1.2, ?_⟩
  cases l with
  | nil => exact absurd h.1.1 (by decide)
  | cons a r => rw [List.length_cons]; omega
theorem name_no {l : List UInt8} (h : nameL l = true) {c : UInt8} (hc : plainB c = false) : c ∉ l := by
  intro m
  unfold nameL at h
  rw [Bool.and_eq_true, List.all_eq_true] at h
  have := h.2 c m
  rw [hc] at this; exact absurd this (by decide)
theorem id_no {l : List UInt8} (h : idL l = true) {c : UInt8} (hc : idB c = false) : c ∉ l := by
  intro m
  unfold idL at h
  rw [Bool.and_eq_true, List.all_eq_true] at h
  have := h.2 c m
  rw [hc] at this; exact absurd this (by decide)

theorem name_id {l : List UInt8} (h : nameL l = true) : idL l = true := by
  have h2 := name_le h
  unfold nameL at h
  rw [Bool.and_eq_true, Bool.and_eq_true, List.all_eq_true] at h
  unfold idL
  rw [Bool.and_eq_true, Bool.and_eq_true, List.all_eq_true]
  refine ⟨⟨decide_eq_true (fun e => ?_), decide_eq_true (by omega)⟩, fun x m => plain_id (h.2 x m)⟩
  rw [e] at h2; exact absurd h2.2 (by decide)

structure Okd (a b c d e f : List UInt8) : Prop where
  a : nameL a = true
  b : idL b = true
  c : nameL c = true
  d : nameL d = true
  e : idL e = true
  f : f = [] ∨ nameL f = true
theorem okd {a b c d e f : List UInt8} : okL a b c d e f = true ↔ Okd a b c d e f := by
  unfold okL
  simp only [Bool.and_eq_true, Bool.or_eq_true, decide_eq_true_eq]
  exact ⟨fun ⟨h1, h2, h3, h4, h5, h6⟩ => ⟨h1, h2, h3, h4, h5, h6⟩, fun ⟨h1, h2, h3, h4, h5, h6⟩ => ⟨h1, h2, h3, h4, h5, h6⟩⟩

theorem ok_ev (a b c d e f : ByteArray) (hb : b.size ≤ 1000000000000) (he : e.size ≤ 1000000000000) :
    Ev (fun k => tupl_Ok.f k a b c d e f) (okL (A a) (A b) (A c) (A d) (A e) (A f)) := by
  obtain ⟨K1, h1⟩ := name_ev a; obtain ⟨K2, h2⟩ := id_ev b hb; obtain ⟨K3, h3⟩ := name_ev c
  obtain ⟨K4, h4⟩ := name_ev d; obtain ⟨K5, h5⟩ := id_ev e he; obtain ⟨K6, h6⟩ := name_ev f
  refine ⟨K1 + K2 + K3 + K4 + K5 + K6, fun k hk => ?_⟩
  have q1 : atom_Name.f k a = some (nameL (A a)) := h1 k (by omega)
  have q2 : atom_ID.f k b = some (idL (A b)) := h2 k (by omega)
  have q3 : atom_Name.f k c = some (nameL (A c)) := h3 k (by omega)
  have q4 : atom_Name.f k d = some (nameL (A d)) := h4 k (by omega)
  have q5 : atom_ID.f k e = some (idL (A e)) := h5 k (by omega)
  have q6 : atom_Name.f k f = some (nameL (A f)) := h6 k (by omega)
  show tupl_Ok.f k a b c d e f = _
  unfold tupl_Ok.f okL
  rw [q1, q2, q3, q4, q5, q6, A_toList]
  simp only [Option.bind_some]
  cases nameL (A a) <;> cases idL (A b) <;> cases nameL (A c) <;> cases nameL (A d) <;> cases idL (A e) <;> by_cases g : A f = [] <;> simp [g]

theorem lit1 (c : UInt8) : A (⟨#[c]⟩ : ByteArray) = [c] := rfl
theorem siz1 (c : UInt8) : (⟨#[c]⟩ : ByteArray).size = 1 := rfl

theorem text_ev (a b c d e f : ByteArray) (hb : b.size ≤ 1000000000000) (he : e.size ≤ 1000000000000) :
    Ev (fun k => tupl_Text.f k a b c d e f) (toB (textR (A a) (A b) (A c) (A d) (A e) (A f))) := by
  obtain ⟨K, h⟩ := ok_ev a b c d e f hb he
  refine ⟨K, fun k hk => ?_⟩
  have q : tupl_Ok.f k a b c d e f = some (okL (A a) (A b) (A c) (A d) (A e) (A f)) := h k hk
  show tupl_Text.f k a b c d e f = _
  unfold tupl_Text.f textR
  rw [q, Option.bind_some]
  by_cases g : okL (A a) (A b) (A c) (A d) (A e) (A f) = true
  · have g' := okd.1 g
    have z1 := (name_le g'.a).1; have z2 := (id_le g'.b).1; have z3 := (name_le g'.c).1; have z4 := (name_le g'.d).1; have z5 := (id_le g'.e).1
    have z6 : (A f).length ≤ 30 := by rcases g'.f with h | h; (rw [h]; exact Nat.zero_le _); exact (name_le h).1
    rw [A_len] at z1 z2 z3 z4 z5 z6
    rw [if_pos g, if_pos g, A_toList]
    iterate 8 rw [if_pos (by (try simp only [ByteArray.size_append, siz1]); omega)]
    by_cases n : A f = []
    · rw [if_pos n]
      refine congrArg some (A_inj ?_)
      unfold textL
      rw [if_pos n]
      simp only [A_append, A_toB, lit1, List.append_assoc, List.nil_append, List.cons_append, List.append_nil]
    · rw [if_neg n]
      iterate 2 rw [if_pos (by (try simp only [ByteArray.size_append, siz1]); omega)]
      refine congrArg some (A_inj ?_)
      unfold textL
      rw [if_neg n]
      simp only [A_append, A_toB, lit1, List.append_assoc, List.nil_append, List.cons_append]
  · rw [if_neg g, if_neg g]; rfl

theorem cut_none {c : UInt8} {l : List UInt8} (h : c ∉ l) : cutA c l = l ∧ cutB c l = [] := by
  have := ((index_ahead c l).2 h).2
  refine ⟨this, ?_⟩
  unfold cutB; rw [this]; exact List.drop_of_length_le (by omega)
theorem cut_some {c : UInt8} {l r : List UInt8} (h : c ∉ l) : cutA c (l ++ c :: r) = l ∧ cutB c (l ++ c :: r) = r := by
  have e : cutA c (l ++ c :: r) = l := by
    unfold cutA
    rw [List.takeWhile_append_of_pos]
    · rw [List.takeWhile_cons]; simp
    · intro x hx
      have : x ≠ c := fun e => h (e ▸ hx)
      simp [this]
  refine ⟨e, ?_⟩
  unfold cutB; rw [e]
  have : (l ++ c :: r) = (l ++ [c]) ++ r := by simp
  rw [this]
  have hl : l.length + 1 = (l ++ [c]).length := by simp
  rw [hl]; exact List.drop_left

theorem cut_eq2 (a : ByteArray) (ha : a.size ≤ 1000000000000000) (c : UInt8) : strings_Cut.f a ⟨⟨[c]⟩⟩ = some (toB (cutA c (A a)), toB (cutB c (A a)), decide (c ∈ A a)) := by
  rw [cut_eq a ha c]
  by_cases g : c ∈ A a
  · rw [if_pos g, decide_eq_true g]
    refine congrArg some (Prod.ext (A_inj ?_) (Prod.ext (A_inj ?_) rfl))
    · exact A_ahead a c
    · exact A_behind a c
  · rw [if_neg g, decide_eq_false g]
    obtain ⟨h1, h2⟩ := cut_none g
    rw [h1, h2, toB_A]; rfl

theorem toB_size (l : List UInt8) : (toB l).size = l.length := by rw [← A_len, A_toB]
theorem cutA_le (c : UInt8) (l : List UInt8) : (cutA c l).length ≤ l.length := (List.takeWhile_prefix _).length_le
theorem cutB_le (c : UInt8) (l : List UInt8) : (cutB c l).length ≤ l.length := by unfold cutB; rw [List.length_drop]; omega

def pa (s : List UInt8) := cutA 58 (cutA 35 (cutA 64 s))
def pb (s : List UInt8) := cutB 58 (cutA 35 (cutA 64 s))
def pc (s : List UInt8) := cutB 35 (cutA 64 s)
def pd (s : List UInt8) := cutA 58 (cutA 35 (cutB 64 s))
def pe (s : List UInt8) := cutB 58 (cutA 35 (cutB 64 s))
def pf (s : List UInt8) := cutB 35 (cutB 64 s)
def fitL (s : List UInt8) : Bool := okL (pa s) (pb s) (pc s) (pd s) (pe s) (pf s) && decide (textL (pa s) (pb s) (pc s) (pd s) (pe s) (pf s) = s)

theorem parse_ev (s : ByteArray) (hs : s.size ≤ 1000000000000) : Ev (fun k => tupl_Parse.f k s)
    (if fitL (A s) = true then (toB (pa (A s)), toB (pb (A s)), toB (pc (A s)), toB (pd (A s)), toB (pe (A s)), toB (pf (A s)), true) else (⟨#[]⟩, ⟨#[]⟩, ⟨#[]⟩, ⟨#[]⟩, ⟨#[]⟩, ⟨#[]⟩, false)) := by
  have L1 := cutA_le 64 (A s); have L2 := cutB_le 64 (A s)
  have L3 := cutA_le 35 (cutA 64 (A s)); have L4 := cutA_le 35 (cutB 64 (A s))
  have L5 := cutB_le 58 (cutA 35 (cutA 64 (A s))); have L6 := cutB_le 58 (cutA 35 (cutB 64 (A s)))
  have L := A_len s
  have c1 : strings_Cut.f s (⟨#[64]⟩ : ByteArray) = some (toB (cutA 64 (A s)), toB (cutB 64 (A s)), decide (64 ∈ A s)) := cut_eq2 s (by omega) 64
  have c2 : strings_Cut.f (toB (cutA 64 (A s))) (⟨#[35]⟩ : ByteArray) = some (toB (cutA 35 (cutA 64 (A s))), toB (cutB 35 (cutA 64 (A s))), decide (35 ∈ cutA 64 (A s))) := cut_eq2 _ (by rw [toB_size]; omega) 35
  have c3 : strings_Cut.f (toB (cutB 64 (A s))) (⟨#[35]⟩ : ByteArray) = some (toB (cutA 35 (cutB 64 (A s))), toB (cutB 35 (cutB 64 (A s))), decide (35 ∈ cutB 64 (A s))) := cut_eq2 _ (by rw [toB_size]; omega) 35
  have c4 : strings_Cut.f (toB (cutA 35 (cutA 64 (A s)))) (⟨#[58]⟩ : ByteArray) = some (toB (pa (A s)), toB (pb (A s)), decide (58 ∈ cutA 35 (cutA 64 (A s)))) := cut_eq2 _ (by rw [toB_size]; omega) 58
  have c5 : strings_Cut.f (toB (cutA 35 (cutB 64 (A s)))) (⟨#[58]⟩ : ByteArray) = some (toB (pd (A s)), toB (pe (A s)), decide (58 ∈ cutA 35 (cutB 64 (A s)))) := cut_eq2 _ (by rw [toB_size]; omega) 58
  have hb : (toB (pb (A s))).size ≤ 1000000000000 := by rw [toB_size]; unfold pb; omega
  have he : (toB (pe (A s))).size ≤ 1000000000000 := by rw [toB_size]; unfold pe; omega
  obtain ⟨K1, h1⟩ := ok_ev (toB (pa (A s))) (toB (pb (A s))) (toB (pc (A s))) (toB (pd (A s))) (toB (pe (A s))) (toB (pf (A s))) hb he
  obtain ⟨K2, h2⟩ := text_ev (toB (pa (A s))) (toB (pb (A s))) (toB (pc (A s))) (toB (pd (A s))) (toB (pe (A s))) (toB (pf (A s))) hb he
  simp only [A_toB] at h1 h2
  refine ⟨K1 + K2, fun k hk => ?_⟩
  have q1 := h1 k (by omega)
  have q2 := h2 k (by omega)
  show tupl_Parse.f k s = _
  unfold tupl_Parse.f
  simp only [c1, Option.bind_some, c2, c3, c4, c5]
  change ((tupl_Ok.f k (toB (pa (A s))) (toB (pb (A s))) (toB (pc (A s))) (toB (pd (A s))) (toB (pe (A s))) (toB (pf (A s)))).bind _) = _
  rw [q1, Option.bind_some]
  by_cases g : okL (pa (A s)) (pb (A s)) (pc (A s)) (pd (A s)) (pe (A s)) (pf (A s)) = true
  · rw [if_pos g]
    change ((tupl_Text.f k (toB (pa (A s))) (toB (pb (A s))) (toB (pc (A s))) (toB (pd (A s))) (toB (pe (A s))) (toB (pf (A s)))).bind _) = _
    rw [q2, Option.bind_some, A_toList, A_toList, A_toB]
    unfold fitL textR
    rw [if_pos g]
    rw [g, Bool.true_and]
    by_cases t : textL (pa (A s)) (pb (A s)) (pc (A s)) (pd (A s)) (pe (A s)) (pf (A s)) = A s
    · rw [if_pos t, if_pos (decide_eq_true t)]; rfl
    · rw [if_neg t, if_neg (by simp [t])]
  · rw [if_neg g]
    unfold fitL
    rw [if_neg (by simp [g])]

theorem plain58 : plainB 58 = false := by decide
theorem plain35 : plainB 35 = false := by decide
theorem plain64 : plainB 64 = false := by decide
theorem id58 : idB 58 = false := by decide
theorem id35 : idB 35 = false := by decide
theorem id64 : idB 64 = false := by decide

theorem no_left {a b c : List UInt8} (ha : nameL a = true) (hb : idL b = true) (hc : nameL c = true) : (64 : UInt8) ∉ a ++ 58 :: (b ++ 35 :: c) := by
  intro m
  simp only [List.mem_append, List.mem_cons] at m
  rcases m with m | m | m | m | m
  · exact name_no ha plain64 m
  · exact absurd m (by decide)
  · exact id_no hb id64 m
  · exact absurd m (by decide)
  · exact name_no hc plain64 m
theorem no_right {d e f : List UInt8} (hd : nameL d = true) (he : idL e = true) (hf : f = [] ∨ nameL f = true) : (64 : UInt8) ∉ d ++ 58 :: (e ++ (if f = [] then [] else 35 :: f)) := by
  intro m
  simp only [List.mem_append, List.mem_cons] at m
  rcases m with m | m | m | m
  · exact name_no hd plain64 m
  · exact absurd m (by decide)
  · exact id_no he id64 m
  · by_cases n : f = []
    · rw [if_pos n] at m; exact absurd m (by simp)
    · rw [if_neg n, List.mem_cons] at m
      rcases m with m | m
      · exact absurd m (by decide)
      · exact name_no (hf.resolve_left n) plain64 m

theorem parts_text {a b c d e f : List UInt8} (h : okL a b c d e f = true) :
    pa (textL a b c d e f) = a ∧ pb (textL a b c d e f) = b ∧ pc (textL a b c d e f) = c ∧ pd (textL a b c d e f) = d ∧ pe (textL a b c d e f) = e ∧ pf (textL a b c d e f) = f := by
  obtain ⟨ha, hb, hc, hd, he, hf⟩ := okd.1 h
  have e0 : textL a b c d e f = (a ++ 58 :: (b ++ 35 :: c)) ++ 64 :: (d ++ 58 :: (e ++ (if f = [] then [] else 35 :: f))) := by
    unfold textL; simp
  obtain ⟨c1, c2⟩ := cut_some (r := d ++ 58 :: (e ++ (if f = [] then [] else 35 :: f))) (no_left ha hb hc)
  rw [← e0] at c1 c2
  have e1 : a ++ 58 :: (b ++ 35 :: c) = (a ++ 58 :: b) ++ 35 :: c := by simp
  have n1 : (35 : UInt8) ∉ a ++ 58 :: b := by
    intro m
    simp only [List.mem_append, List.mem_cons] at m
    rcases m with m | m | m
    · exact name_no ha plain35 m
    · exact absurd m (by decide)
    · exact id_no hb id35 m
  have n2 : (35 : UInt8) ∉ d ++ 58 :: e := by
    intro m
    simp only [List.mem_append, List.mem_cons] at m
    rcases m with m | m | m
    · exact name_no hd plain35 m
    · exact absurd m (by decide)
    · exact id_no he id35 m
  obtain ⟨c3, c4⟩ := cut_some (r := c) n1
  rw [← e1] at c3 c4
  have hr : cutA 35 (d ++ 58 :: (e ++ (if f = [] then [] else 35 :: f))) = d ++ 58 :: e ∧ cutB 35 (d ++ 58 :: (e ++ (if f = [] then [] else 35 :: f))) = f := by
    by_cases n : f = []
    · rw [if_pos n, List.append_nil, n]; exact cut_none n2
    · rw [if_neg n]
      have e2 : d ++ 58 :: (e ++ 35 :: f) = (d ++ 58 :: e) ++ 35 :: f := by simp
      rw [e2]; exact cut_some n2
  obtain ⟨c5, c6⟩ := hr
  obtain ⟨c7, c8⟩ := cut_some (r := b) (name_no ha plain58)
  obtain ⟨c9, c10⟩ := cut_some (r := e) (name_no hd plain58)
  unfold pa pb pc pd pe pf
  rw [c1, c2, c3, c4, c5, c6, c7, c8, c9, c10]
  exact ⟨rfl, rfl, rfl, rfl, rfl, rfl⟩

theorem fit_text {a b c d e f : List UInt8} (h : okL a b c d e f = true) : fitL (textL a b c d e f) = true := by
  obtain ⟨h1, h2, h3, h4, h5, h6⟩ := parts_text h
  unfold fitL
  rw [h1, h2, h3, h4, h5, h6, h, Bool.true_and]
  exact decide_eq_true rfl
theorem fit_is {s : List UInt8} (h : fitL s = true) : okL (pa s) (pb s) (pc s) (pd s) (pe s) (pf s) = true ∧ textL (pa s) (pb s) (pc s) (pd s) (pe s) (pf s) = s := by
  unfold fitL at h
  rw [Bool.and_eq_true] at h
  exact ⟨h.1, of_decide_eq_true h.2⟩

theorem text_inj {a b c d e f a' b' c' d' e' f' : List UInt8} (h : okL a b c d e f = true) (h' : okL a' b' c' d' e' f' = true) (e0 : textL a b c d e f = textL a' b' c' d' e' f') :
    a = a' ∧ b = b' ∧ c = c' ∧ d = d' ∧ e = e' ∧ f = f' := by
  obtain ⟨h1, h2, h3, h4, h5, h6⟩ := parts_text h
  obtain ⟨g1, g2, g3, g4, g5, g6⟩ := parts_text h'
  rw [e0] at h1 h2 h3 h4 h5 h6
  exact ⟨h1.symm.trans g1, h2.symm.trans g2, h3.symm.trans g3, h4.symm.trans g4, h5.symm.trans g5, h6.symm.trans g6⟩

theorem text_len {a b c d e f : List UInt8} (h : okL a b c d e f = true) : 9 ≤ (textL a b c d e f).length := by
  obtain ⟨ha, hb, hc, hd, he, hf⟩ := okd.1 h
  have z1 := (name_le ha).2; have z2 := (id_le hb).2; have z3 := (name_le hc).2; have z4 := (name_le hd).2; have z5 := (id_le he).2
  unfold textL
  simp only [List.length_append, List.length_cons]
  omega

theorem text_at {a b c d e f : List UInt8} (h : okL a b c d e f = true) : (textL a b c d e f).count 64 = 1 := by
  obtain ⟨ha, hb, hc, hd, he, hf⟩ := okd.1 h
  have e0 : textL a b c d e f = (a ++ 58 :: (b ++ 35 :: c)) ++ 64 :: (d ++ 58 :: (e ++ (if f = [] then [] else 35 :: f))) := by
    unfold textL; simp
  rw [e0, List.count_append, List.count_cons_self, List.count_eq_zero_of_not_mem (no_left ha hb hc), List.count_eq_zero_of_not_mem (no_right hd he hf)]

theorem awake2_ev : Ev (fun k => entaillaw2_awake.f k) true :=
  Ev.of (fun k => entaillaw2_awake.mono k) (k := 60) (by decide +kernel)
end Go.Proofs.Ytjmlloiolppoiaa.Tupl
