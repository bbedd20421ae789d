/- A row whose order is open: whatever the order, it ends as in the order that was taken. -/
import Derived.Test.YtgcciohenncplaaAi19
namespace Go.Proofs.Ytgcciohenncplaa.Ai
noncomputable section
open Go.RowKit (Below)

/-- 0: looks at no memory · 1: reads · 2: makes a block · 3: a frozen call · 4: all others. -/
def AOp.kind : AOp → Nat
  | .p _ | .k _ => 0
  | .r _ => 1
  | .l _ => 2
  | .e (.call true _ _) | .e (.callv true _ _) => 3
  | .e _ => 4

theorem kind0 {call : Nat → List AV → M AV} {F : Fr} {o : AOp} (hk : o.kind = 0) {aid : Nat} {s s' : AS} {v : AV} (h : o.ev call F aid s = some (v, s')) : s' = s ∧ ∀ aid2 s2, o.ev call F aid2 s2 = some (v, s2) := by
  cases o with
  | p o =>
    simp only [AOp.ev] at h
    split at h
    · rename_i u hu; cases h; exact ⟨rfl, fun aid2 s2 => by simp only [AOp.ev, hu]⟩
    · cases h
  | k o =>
    simp only [AOp.ev] at h
    split at h
    · rename_i u hu; cases h; exact ⟨rfl, fun aid2 s2 => by simp only [AOp.ev, hu]⟩
    · cases h
  | r o => cases hk
  | l o => cases hk
  | e o => cases o <;> first | (cases hk; done) | (rename_i q _ _; cases q <;> cases hk)
/-- The reading of an operation that reads. -/
def AOp.rd (F : Fr) (h : Heap) : AOp → Option AV
  | .r o => o.ev F h
  | _ => none
theorem kind1 {call : Nat → List AV → M AV} {F : Fr} {o : AOp} (hk : o.kind = 1) {aid : Nat} {s s' : AS} {v : AV} (h : o.ev call F aid s = some (v, s')) : s' = s ∧ o.rd F s.h = some v := by
  cases o with
  | r o =>
    simp only [AOp.ev] at h
    split at h
    · rename_i u hu; cases h; exact ⟨rfl, hu⟩
    · cases h
  | p o => cases hk
  | k o => cases hk
  | l o => cases hk
  | e o => cases o <;> first | (cases hk; done) | (rename_i q _ _; cases q <;> cases hk)
theorem kind1' {call : Nat → List AV → M AV} {F : Fr} {o : AOp} (hk : o.kind = 1) {aid : Nat} {s : AS} {v : AV} (h : o.rd F s.h = some v) : o.ev call F aid s = some (v, s) := by
  cases o with
  | r o => simp only [AOp.rd] at h; simp only [AOp.ev, h]
  | p o => cases hk
  | k o => cases hk
  | l o => cases hk
  | e o => cases o <;> first | (cases hk; done) | (rename_i q _ _; cases q <;> cases hk)
theorem kind2 {call : Nat → List AV → M AV} {F : Fr} {o : AOp} (hk : o.kind = 2) {aid : Nat} {s s' : AS} {v : AV} (h : o.ev call F aid s = some (v, s')) :
    s.h aid = none ∧ ∃ b, s' = { s with h := s.h.upd aid (some b) } ∧ ∀ s2 : AS, s2.h aid = none → o.ev call F aid s2 = some (v, { s2 with h := s2.h.upd aid (some b) }) := by
  cases o with
  | l o =>
    simp only [AOp.ev] at h
    split at h
    · rename_i b u h1 h2
      cases h
      exact ⟨h1, b, rfl, fun s2 hs => by simp only [AOp.ev, hs, h2]⟩
    · cases h
  | p o => cases hk
  | k o => cases hk
  | r o => cases hk
  | e o => cases o <;> first | (cases hk; done) | (rename_i q _ _; cases q <;> cases hk)
theorem kind3 {call : Nat → List AV → M AV} {F : Fr} {o : AOp} (hk : o.kind = 3) {aid : Nat} {s s' : AS} {v : AV} (h : o.ev call F aid s = some (v, s')) : s'.h = s.h := by
  have qh : ∀ {f as_ v s'}, quiet call f as_ s = some (v, s') → s'.h = s.h := by
    intro f as_ v s' h
    unfold quiet at h
    split at h
    case h_2 => cases h
    split at h
    case h_2 => cases h
    cases h; rfl
  cases o with
  | e o =>
    cases o with
    | call q f as_ =>
      cases q with
      | true => simp only [AOp.ev, EOp.ev, if_true] at h; exact qh h
      | false => cases hk
    | callv q f as_ =>
      cases q with
      | true =>
        simp only [AOp.ev, EOp.ev, if_true] at h
        split at h
        · exact qh h
        · cases h
      | false => cases hk
    | _ => cases hk
  | p o => cases hk
  | k o => cases hk
  | r o => cases hk
  | l o => cases hk

theorem rd_upd {F : Fr} {h : Heap} {o : AOp} {v : AV} (hr : o.rd F h = some v) {aid : Nat} (hn : h aid = none) (b : Option Blk) : o.rd F (h.upd aid b) = some v := by
  have key : ∀ id x, h id = some x → h.upd aid b id = some x := by
    intro id x hx
    rw [upd_ne _ _ (fun e => by rw [e, hn] at hx; cases hx)]; exact hx
  cases o with
  | r o =>
    simp only [AOp.rd] at hr ⊢
    cases o with
    | load ag sz a =>
      simp only [ROp.ev] at hr ⊢
      split at hr
      · split at hr
        · rename_i hid; simp only [key _ _ hid]; exact hr
        · cases hr
      · exact hr
      · cases hr
    | lookup z ok ks m k =>
      simp only [ROp.ev] at hr ⊢
      split at hr
      case isFalse => cases hr
      rename_i hg
      rw [if_pos hg]
      cases hm : m.ev F <;> simp only [hm] at hr ⊢ <;> first | exact hr | skip
      rename_i id
      cases hid : h id with
      | none => simp only [hid] at hr; cases hr
      | some x => simp only [hid] at hr; simp only [key _ _ hid]; exact hr
    | lenM m =>
      simp only [ROp.ev] at hr ⊢
      split at hr
      · exact hr
      · split at hr
        · rename_i hid; simp only [key _ _ hid]; exact hr
        · cases hr
      · cases hr
    | b2s x =>
      simp only [ROp.ev] at hr ⊢
      cases hx : x.ev F <;> simp only [hx, rowsOf] at hr ⊢ <;> first | exact hr | skip
      rename_i id i n sz t
      cases hid : h id with
      | none => simp only [hid] at hr; cases hr
      | some y => simp only [hid] at hr; simp only [key _ _ hid]; exact hr
  | _ => simp only [AOp.rd] at hr; cases hr

theorem upd_comm (h : Heap) {i j : Nat} (hij : i ≠ j) (b c : Option Blk) : (h.upd i b).upd j c = (h.upd j c).upd i b := by
  funext k
  by_cases e : k = j
  · subst e
    rw [upd_self, upd_ne _ _ (Ne.symm hij), upd_self]
  · rw [upd_ne _ _ e]
    by_cases e' : k = i
    · subst e'; rw [upd_self, upd_self]
    · rw [upd_ne _ _ e', upd_ne _ _ e', upd_ne _ _ e]

/-- The static data of a row: 'ins': its operations · 'pc': those that come ahead of one, as bits · 'rl': the readings that one must leave. -/
structure Row where
  ins : Nat → AIns
  pc : Nat → Nat
  rl : Nat → List Nat
def AIns.rop (i : AIns) : Option (Nat × Bool) × ROp := (i.guard, match i.op with | .r o => o | _ => .lenM (.const .nilm))
def Row.at_ (R : Row) (D : Nat → Bool) (j : Nat) : AIns := { R.ins j with ck := ((R.rl j).filter D).map fun i => (R.ins i).rop }
def addD (D : Nat → Bool) (j : Nat) : Nat → Bool := fun i => i == j || D i

/-- Two operations that are not bound to each other, the first ahead of the second in the order that was taken. -/
structure Pair (R : Row) (x y : Nat) : Prop where
  ne : x ≠ y
  l1 : noLook (R.ins x).dst (R.ins y) = true
  l2 : noLook (R.ins y).dst (R.ins x) = true
  dd : ∀ i, (R.ins x).dst = some i → (R.ins y).dst ≠ some i
  kinds : (R.ins x).op.kind = 0 ∨ (R.ins y).op.kind = 0 ∨ ((R.ins x).op.kind = 1 ∧ (R.ins y).op.kind = 1) ∨ ((R.ins x).op.kind = 1 ∧ (R.ins y).op.kind = 2) ∨ ((R.ins x).op.kind = 2 ∧ (R.ins y).op.kind = 2) ∨
    ((R.ins x).op.kind = 1 ∧ (R.ins y).op.kind = 3) ∨ ((R.ins x).op.kind = 3 ∧ (R.ins y).op.kind = 1) ∨ ((R.ins x).op.kind = 1 ∧ (R.ins y).op.kind = 4 ∧ x ∈ R.rl y)
  c1 : ∀ i ∈ R.rl y, (R.pc i).testBit x = true ∨ noLook (R.ins x).dst (R.ins i) = true
  c2 : ∀ i ∈ R.rl x, (R.pc i).testBit y = true ∨ noLook (R.ins y).dst (R.ins i) = true
structure Sound (R : Row) : Prop where
  ix : ∀ j, (R.ins j).ix = j
  rlk : ∀ j, R.rl j ≠ [] → (R.ins j).op.kind = 4
  rlr : ∀ j, ∀ i ∈ R.rl j, (R.ins i).op.kind = 1
  own : ∀ j, ∀ i ∈ R.rl j, noLook (R.ins i).dst (R.ins i) = true

theorem recheck_congr {F : Fr} {d : Option Nat} {v : AV} {i : AIns} (hk : i.op.kind = 1) (h : noLook d i = true) (h1 h2 : Heap) : recheck (putD F d v) h1 h2 i.rop = recheck F h1 h2 i.rop := by
  cases ho : i.op with
  | r o =>
    have he : i.rop = (i.guard, o) := by simp only [AIns.rop, ho]
    have hc := noLook_opds (F := F) (v := v) h
    rw [ho] at hc
    unfold recheck
    rw [he]
    simp only [noLook_wanted h, ROp.congr hc]
  | p o => rw [ho] at hk; cases hk
  | k o => rw [ho] at hk; cases hk
  | l o => rw [ho] at hk; cases hk
  | e o => rw [ho] at hk; cases o <;> first | (cases hk; done) | (rename_i q _ _; cases q <;> cases hk)

/-- The checks of an operation, made with one operation more carried out, or less. -/
theorem checks_congr {R : Row} {D : Nat → Bool} {x y : Nat} {F : Fr} {v : AV} (hs : Sound R) (hI : ∀ i, D i = true → ∀ z, (R.pc i).testBit z = true → D z = true) (hx : D x = false) (hc : ∀ i ∈ R.rl y, (R.pc i).testBit x = true ∨ noLook (R.ins x).dst (R.ins i) = true) (h1 h2 : Heap) :
    ((((R.rl y).filter D).map fun i => (R.ins i).rop).all (recheck (putD F (R.ins x).dst v) h1 h2)) = ((((R.rl y).filter D).map fun i => (R.ins i).rop).all (recheck F h1 h2)) := by
  rw [List.all_map, List.all_map]
  have hk : ∀ i ∈ (R.rl y).filter D, recheck (putD F (R.ins x).dst v) h1 h2 (R.ins i).rop = recheck F h1 h2 (R.ins i).rop := by
    intro i hi
    rw [List.mem_filter] at hi
    refine recheck_congr (hs.rlr y i hi.1) ((hc i hi.1).resolve_left fun q => ?_) h1 h2
    have := hI i hi.2 x q
    rw [hx] at this; cases this
  rw [Bool.eq_iff_iff, List.all_eq_true, List.all_eq_true]
  refine ⟨fun h i hi => ?_, fun h i hi => ?_⟩
  · have := h i hi
    simp only [Function.comp] at this ⊢
    rwa [hk i hi] at this
  · simp only [Function.comp]
    rw [hk i hi]; exact h i hi

theorem step_iff {call : Nat → List AV → M AV} {base : Nat} {i : AIns} {F F' : Fr} {s s' : AS} : i.step call base F s = some (F', s') ↔
    (wantedG F i.guard = some false ∧ F' = putD F i.dst (.tup []) ∧ s' = s) ∨ (wantedG F i.guard = some true ∧ ∃ v, i.op.ev call F (base + i.ix) s = some (v, s') ∧ i.ck.all (recheck F s.h s'.h) = true ∧ F' = putD F i.dst v) := by
  unfold AIns.step AIns.wanted
  constructor
  · intro h
    split at h
    · rename_i hw
      split at h
      · rename_i v s1 h1
        split at h
        · rename_i hc; cases h; exact .inr ⟨hw, v, h1, hc, rfl⟩
        · cases h
      · cases h
    · rename_i hw; cases h; exact .inl ⟨hw, rfl, rfl⟩
    · cases h
  · rintro (⟨h1, rfl, rfl⟩ | ⟨h1, v, h2, h3, rfl⟩)
    · rw [h1]
    · rw [h1]; simp only [h2, h3, if_true]

def Row.step (R : Row) (call : Nat → List AV → M AV) (base : Nat) (D : Nat → Bool) (j : Nat) (F : Fr) : M Fr := (R.at_ D j).step call base F

theorem swap {R : Row} {call : Nat → List AV → M AV} {base : Nat} {D : Nat → Bool} {x y : Nat} {F F1 F2 : Fr} {s s1 s2 : AS} (hs : Sound R) (hI : ∀ i, D i = true → ∀ z, (R.pc i).testBit z = true → D z = true) (hDx : D x = false) (hDy : D y = false) (hp : Pair R x y)
    (h1 : R.step call base D x F s = some (F1, s1)) (h2 : R.step call base (addD D x) y F1 s1 = some (F2, s2)) :
    ∃ F1' s1', R.step call base D y F s = some (F1', s1') ∧ R.step call base (addD D y) x F1' s1' = some (F2, s2) := by
  unfold Row.step at *
  have hyx : y ∉ R.rl x := by
    intro q
    have k1 := hs.rlk x (fun e => by rw [e] at q; cases q)
    have k2 := hs.rlr x y q
    rcases hp.kinds with h | h | ⟨h, _⟩ | ⟨h, _⟩ | ⟨h, _⟩ | ⟨h, _⟩ | ⟨h, _⟩ | ⟨h, _⟩ <;> omega
  have ckx : ((R.rl x).filter (addD D y)) = ((R.rl x).filter D) := by
    apply List.filter_congr
    intro i hi
    have : i ≠ y := fun e => hyx (e ▸ hi)
    simp [addD, this]
  have cky : ∀ {F : Fr} {h h' : Heap}, (R.at_ (addD D x) y).ck.all (recheck F h h') = true → (R.at_ D y).ck.all (recheck F h h') = true := by
    intro F h h' ha
    rw [List.all_eq_true] at ha ⊢
    intro c hc
    simp only [Row.at_, List.mem_map, List.mem_filter] at hc
    obtain ⟨i, ⟨hi, hd⟩, rfl⟩ := hc
    exact ha _ (by simp only [Row.at_, List.mem_map, List.mem_filter]; exact ⟨i, ⟨hi, by simp [addD, hd]⟩, rfl⟩)
  have ixx : (R.at_ D x).ix = x := hs.ix x
  have nock : ∀ {j D'}, (R.ins j).op.kind ≠ 4 → (R.at_ D' j).ck = [] := by
    intro j D' hk
    have : R.rl j = [] := by
      cases hr : R.rl j with
      | nil => rfl
      | cons a b => exact absurd (hs.rlk j (by rw [hr]; simp)) hk
    simp [Row.at_, this]
  have cgy : ∀ {v : AV} {h h' : Heap}, (R.at_ D y).ck.all (recheck (putD F (R.ins x).dst v) h h') = true → (R.at_ D y).ck.all (recheck F h h') = true := by
    intro v h h' ha
    have := checks_congr (y := y) (F := F) (v := v) hs hI hDx hp.c1 h h'
    simp only [Row.at_] at ha ⊢
    rwa [this] at ha
  have cgx : ∀ {v : AV} {h h' : Heap}, (R.at_ D x).ck.all (recheck F h h') = true → (R.at_ (addD D y) x).ck.all (recheck (putD F (R.ins y).dst v) h h') = true := by
    intro v h h' ha
    have := checks_congr (x := y) (y := x) (F := F) (v := v) hs hI hDy hp.c2 h h'
    simp only [Row.at_, ckx] at ha ⊢
    rwa [this]
  have wy : ∀ {v : AV}, wantedG (putD F (R.ins x).dst v) (R.ins y).guard = wantedG F (R.ins y).guard := noLook_wanted hp.l1
  have wx : ∀ {v : AV}, wantedG (putD F (R.ins y).dst v) (R.ins x).guard = wantedG F (R.ins x).guard := noLook_wanted hp.l2
  have ey : ∀ {v : AV} (aid : Nat), (R.ins y).op.ev call (putD F (R.ins x).dst v) aid = (R.ins y).op.ev call F aid := fun aid => AOp.congr (noLook_opds hp.l1) aid
  have ex : ∀ {v : AV} (aid : Nat), (R.ins x).op.ev call (putD F (R.ins y).dst v) aid = (R.ins x).op.ev call F aid := fun aid => AOp.congr (noLook_opds hp.l2) aid
  have cm : ∀ {u v : AV}, putD (putD F (R.ins x).dst u) (R.ins y).dst v = putD (putD F (R.ins y).dst v) (R.ins x).dst u := putD_comm hp.dd
  rw [step_iff] at h1 h2
  simp only [Row.at_] at h1 h2 ckx cky nock cgy cgx
  rcases h1 with ⟨w1, rfl, rfl⟩ | ⟨w1, vx, e1, c1, rfl⟩
  · -- the first is passed over
    rw [wy] at h2
    rcases h2 with ⟨w2, rfl, rfl⟩ | ⟨w2, vy, e2, c2, rfl⟩
    · exact ⟨_, _, step_iff.2 (.inl ⟨w2, rfl, rfl⟩), step_iff.2 (.inl ⟨by simp only [Row.at_]; rw [wx]; exact w1, cm, rfl⟩)⟩
    · rw [ey] at e2
      exact ⟨_, _, step_iff.2 (.inr ⟨w2, vy, e2, cgy (cky c2), rfl⟩), step_iff.2 (.inl ⟨by simp only [Row.at_]; rw [wx]; exact w1, cm, rfl⟩)⟩
  · rw [wy] at h2
    rcases h2 with ⟨w2, rfl, rfl⟩ | ⟨w2, vy, e2, c2, rfl⟩
    · exact ⟨_, _, step_iff.2 (.inl ⟨w2, rfl, rfl⟩), step_iff.2 (.inr ⟨by simp only [Row.at_]; rw [wx]; exact w1, vx, by simp only [Row.at_]; rw [ex]; exact e1, cgx c1, cm⟩)⟩
    · rw [ey] at e2
      have goal : ∀ s1', (R.ins y).op.ev call F (base + (R.ins y).ix) s = some (vy, s1') → (R.at_ D y).ck.all (recheck F s.h s1'.h) = true → (R.ins x).op.ev call F (base + (R.ins x).ix) s1' = some (vx, s2) → (R.at_ D x).ck.all (recheck F s1'.h s2.h) = true →
          ∃ F1' s1', (R.at_ D y).step call base F s = some (F1', s1') ∧ (R.at_ (addD D y) x).step call base F1' s1' = some (putD (putD F (R.ins x).dst vx) (R.ins y).dst vy, s2) := by
        intro s1' g1 g2 g3 g4
        exact ⟨_, s1', step_iff.2 (.inr ⟨w2, vy, g1, g2, rfl⟩), step_iff.2 (.inr ⟨by simp only [Row.at_]; rw [wx]; exact w1, vx, by simp only [Row.at_]; rw [ex]; exact g3, cgx g4, cm⟩)⟩
      rcases hp.kinds with k | k | ⟨k, k'⟩ | ⟨k, k'⟩ | ⟨k, k'⟩ | ⟨k, k'⟩ | ⟨k, k'⟩ | ⟨k, k', hin⟩
      · obtain ⟨rfl, a2⟩ := kind0 k e1
        exact goal s2 e2 (cgy (cky c2)) (a2 _ _) (by simp only [Row.at_]; rw [nock (j := x) (by omega)]; rfl)
      · obtain ⟨rfl, a2⟩ := kind0 k e2
        exact goal s (a2 _ _) (by simp only [Row.at_]; rw [nock (j := y) (by omega)]; rfl) e1 c1
      · obtain ⟨rfl, a2⟩ := kind1 k e1
        obtain ⟨rfl, b2⟩ := kind1 k' e2
        exact goal _ e2 (by simp only [Row.at_]; rw [nock (j := y) (by omega)]; rfl) e1 c1
      · obtain ⟨rfl, a2⟩ := kind1 k e1
        obtain ⟨b1, b, rfl, b3⟩ := kind2 k' e2
        exact goal _ e2 (by simp only [Row.at_]; rw [nock (j := y) (by omega)]; rfl) (kind1' k (rd_upd a2 b1 _)) (by simp only [Row.at_]; rw [nock (j := x) (by omega)]; rfl)
      · obtain ⟨a1, b, rfl, a3⟩ := kind2 k e1
        obtain ⟨b1, b', rfl, b3⟩ := kind2 k' e2
        have hne : base + (R.ins y).ix ≠ base + (R.ins x).ix := by rw [hs.ix, hs.ix]; have := hp.ne; omega
        have hfree : s.h (base + (R.ins y).ix) = none := by
          have : (s.h.upd (base + (R.ins x).ix) (some b)) (base + (R.ins y).ix) = none := b1
          rwa [upd_ne _ _ hne] at this
        refine goal _ (b3 s hfree) (by simp only [Row.at_]; rw [nock (j := y) (by omega)]; rfl) ?_ (by simp only [Row.at_]; rw [nock (j := x) (by omega)]; rfl)
        rw [a3 _ (by show (s.h.upd (base + (R.ins y).ix) (some b')) (base + (R.ins x).ix) = none; rw [upd_ne _ _ (Ne.symm hne)]; exact a1)]
        simp only [upd_comm s.h hne]
      · obtain ⟨rfl, a2⟩ := kind1 k e1
        have hh := kind3 k' e2
        exact goal _ e2 (by simp only [Row.at_]; rw [nock (j := y) (by omega)]; rfl) (kind1' k (by rw [hh]; exact a2)) (by simp only [Row.at_]; rw [nock (j := x) (by omega)]; rfl)
      · have hh := kind3 k e1
        obtain ⟨rfl, b2⟩ := kind1 k' e2
        exact goal s (kind1' k' (by rw [← hh]; exact b2)) (by simp only [Row.at_]; rw [nock (j := y) (by omega)]; rfl) e1 c1
      · obtain ⟨rfl, a2⟩ := kind1 k e1
        have hx2 : recheck (putD F (R.ins x).dst vx) s1.h s2.h (R.ins x).rop = true := by
          rw [List.all_eq_true] at c2
          refine c2 _ (List.mem_map.2 ⟨x, List.mem_filter.2 ⟨hin, by simp [addD]⟩, rfl⟩)
        have hown : noLook (R.ins x).dst (R.ins x) = true := hs.own y x hin
        rw [recheck_congr k hown] at hx2
        have hrd : (R.ins x).op.rd F s2.h = some vx := by
          cases ho : (R.ins x).op with
          | r o =>
            have he : (R.ins x).rop = ((R.ins x).guard, o) := by simp only [AIns.rop, ho]
            rw [ho] at a2
            simp only [AOp.rd] at a2 ⊢
            unfold recheck at hx2
            rw [he, w1] at hx2
            simp only [a2] at hx2
            split at hx2
            · rename_i u u' q1 q2
              cases q1
              rw [q2, same_eq _ _ _ hx2]
            · cases hx2
          | p o => rw [ho] at k; cases k
          | k o => rw [ho] at k; cases k
          | l o => rw [ho] at k; cases k
          | e o => rw [ho] at k; cases o <;> first | (cases k; done) | (rename_i q _ _; cases q <;> cases k)
        exact goal _ e2 (cgy (cky c2)) (kind1' k hrd) (by simp only [Row.at_]; rw [nock (j := x) (by omega)]; rfl)

end
end Go.Proofs.Ytgcciohenncplaa.Ai
