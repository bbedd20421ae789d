/- Memory: operations that make a block. -/
import Derived.Test.YtgcciohenncplaaAi10
namespace Go.Proofs.Ytgcciohenncplaa.Ai
noncomputable section
open Go.RowKit (Below)

def Env.put (ρ : Env) (id : Nat) (L : Loc) : Env := { loc := fun i => if i = id then some L else ρ.loc i, imm := ρ.imm }
theorem Env.put_ext {ρ : Env} {id : Nat} {L : Loc} (h : ρ.loc id = none) : Ext ρ (ρ.put id L) :=
  ⟨fun i M hi => by
    show (if i = id then some L else ρ.loc i) = some M
    rw [if_neg (fun e => by rw [e, h] at hi; cases hi)]; exact hi, fun _ _ _ h => h⟩
theorem Env.put_self {ρ : Env} {id : Nat} {L : Loc} : (ρ.put id L).loc id = some L := if_pos rfl
theorem Env.put_ne {ρ : Env} {id i : Nat} {L : Loc} (h : i ≠ id) : (ρ.put id L).loc i = ρ.loc i := if_neg h
theorem upd_self (h : Heap) (i : Nat) (b : Option Blk) : h.upd i b i = b := by simp [Heap.upd]
theorem upd_ne (h : Heap) {i j : Nat} (b : Option Blk) (e : j ≠ i) : h.upd i b j = h j := by
  have : Nat.beq j i = false := by
    cases hb : Nat.beq j i with
    | false => rfl
    | true => exact absurd (Nat.eq_of_beq_eq_true hb) e
  simp [Heap.upd, this]

theorem OkB.world {ρ : Env} {L : Loc} {w w' : World} {b : Blk} (h : OkB ρ L w b) (e : w'.heap[L.b]? = w.heap[L.b]?) : OkB ρ L w' b := by
  cases b with
  | rows rs => obtain ⟨c, T, h1, r⟩ := h; exact ⟨c, T, e.trans h1, r⟩
  | map es => obtain ⟨c, T, h1, r⟩ := h; exact ⟨c, T, e.trans h1, r⟩
  | bld => obtain ⟨c, h1, r⟩ := h; exact ⟨c, e.trans h1, r⟩
  | buf l => obtain ⟨c, fz, h1, r⟩ := h; exact ⟨c, fz, e.trans h1, r⟩

theorem cell_world {w w' : World} {b o : Nat} (e : w'.heap[b]? = w.heap[b]?) : w'.cell? ⟨b, o, none⟩ = w.cell? ⟨b, o, none⟩ := by
  simp only [World.cell?, e]
theorem cell_lt {w : World} {b o : Nat} {v : Value} (h : w.cell? ⟨b, o, none⟩ = some v) : b < w.heap.size := by
  rcases Nat.lt_or_ge b w.heap.size with q | q
  · exact q
  · simp [World.cell?, Array.getElem?_eq_none q] at h

theorem new_ok {N : Nat} {ρ : Env} {s : AS} {w : World} (hw : OkW N ρ s w) {aid : Nat} (hlt : aid < s.n) (hnew : ρ.loc aid = none) {L : Loc} (hb : L.b = w.heap.size) {ob : Obj} {blk : Blk} (hok : OkB (ρ.put aid L) L (w.alloc ob) blk) :
    OkW N (ρ.put aid L) { s with h := s.h.upd aid (some blk) } (w.alloc ob) := by
  have hx := Env.put_ext (L := L) hnew
  have old : ∀ k, k < w.heap.size → (w.alloc ob).heap[k]? = w.heap[k]? := fun k hk => Below.heap_alloc w ob k hk
  have hsz : (w.alloc ob).heap.size = w.heap.size + 1 := by simp
  refine ⟨fun id b hid => ?_, fun id id' M M' h1 h2 l1 l2 he => ?_, fun b o v hv => ?_, fun id M o h1 l1 => ?_, fun id hid => ?_, by rw [hsz]; have := hw.size; omega⟩
  · by_cases e : id = aid
    · subst e
      rw [show ({ s with h := s.h.upd id (some blk) } : AS).h id = some blk from upd_self ..] at hid
      cases hid
      exact ⟨L, Env.put_self, by rw [hb]; exact hw.size, by rw [hsz]; omega, hok⟩
    · rw [show ({ s with h := s.h.upd aid (some blk) } : AS).h id = s.h id from upd_ne _ _ e] at hid
      obtain ⟨M, m1, m2, m3, m4⟩ := hw.own id b hid
      exact ⟨M, by rw [Env.put_ne e]; exact m1, m2, by rw [hsz]; omega, (m4.mono hx).world (old _ m3)⟩
  · have key : ∀ i M, (s.h.upd aid (some blk)) i ≠ none → (ρ.put aid L).loc i = some M → (i = aid ∧ M = L) ∨ (i ≠ aid ∧ s.h i ≠ none ∧ ρ.loc i = some M ∧ M.b < w.heap.size) := by
      intro i M h l
      by_cases e : i = aid
      · subst e; rw [Env.put_self] at l; cases l; exact .inl ⟨rfl, rfl⟩
      · rw [upd_ne _ _ e] at h
        rw [Env.put_ne e] at l
        obtain ⟨b, hb'⟩ := Option.ne_none_iff_exists'.1 h
        obtain ⟨M', m1, _, m3, _⟩ := hw.own i b hb'
        rw [l] at m1; cases m1
        exact .inr ⟨e, h, l, m3⟩
    rcases key id M h1 l1 with ⟨rfl, rfl⟩ | ⟨e, q1, q2, q3⟩ <;> rcases key id' M' h2 l2 with ⟨rfl, rfl⟩ | ⟨e', r1, r2, r3⟩
    · rfl
    · omega
    · omega
    · exact hw.inj id id' M M' q1 r1 q2 r2 he
  · have h0 := hw.imm b o v hv
    rw [cell_world (old b (cell_lt h0))]; exact h0
  · by_cases e : id = aid
    · subst e
      rw [Env.put_self] at l1; cases l1
      cases hi : (ρ.put id L).imm L.b o with
      | none => rfl
      | some v =>
        have := cell_lt (hw.imm L.b o v hi)
        omega
    · rw [Env.put_ne e] at l1
      exact hw.sep id M o (by rwa [show ({ s with h := s.h.upd aid (some blk) } : AS).h id = s.h id from upd_ne _ _ e] at h1) l1
  · rw [Env.put_ne (by show id ≠ aid; have : s.n ≤ id := hid; omega)]
    exact hw.new id hid

theorem okB_flat {ρ : Env} {L : Loc} {w : World} {rs : List (List AV)} {c : Array Value} {T : TypeId} (hf : Flat ρ L.s rs c.toList) (hc : rs.length = L.cap) (hh : w.heap[L.b]? = some (.cells c T (0, 0))) : OkB ρ L w (.rows rs) := by
  refine ⟨c, T, hh, by have := hf.len; simpa [hc] using this, by omega, hf.row, fun i row k x h1 h2 => ?_⟩
  obtain ⟨a, b⟩ := hf.cell i row k x h1 h2
  refine ⟨a, ?_⟩
  simpa [Array.getD_eq_getD_getElem?, List.getD_eq_getElem?_getD] using b

theorem heap_last (w : World) (o : Obj) : (w.alloc o).heap[w.heap.size]? = some o := by
  show (w.heap.push o)[w.heap.size]? = _
  simp

/-- Operations that make a block. -/
def cL (P : Program) : Op → Option LOp
  | .alloc t => (zeroT P t).bind fun z => if t = bT then (match z with | [.nilp, .nils] => some .allocB | _ => none) else some (.alloc z)
  | .box _ x => (cO x).map .box
  | .makeMap _ none => some .mkmap
  | _ => none

theorem flat_rep_get {α : Type} (l : List α) : ∀ (n i : Nat), i < n * l.length → (List.replicate n l).flatten[i]? = l[i % l.length]?
  | 0, i, h => by omega
  | n + 1, i, h => by
    rw [Nat.add_mul] at h
    rw [List.replicate_succ, List.flatten_cons]
    by_cases q : i < l.length
    · rw [List.getElem?_append_left q, Nat.mod_eq_of_lt q]
    · rw [List.getElem?_append_right (by omega), flat_rep_get l n _ (by omega), ← Nat.mod_eq_sub_mod (by omega)]
theorem zeros_eq (c : Array Value) (n : Nat) : ((Array.range (n * c.size)).map (fun i => c[i % c.size]!)) = (List.replicate n c.toList).flatten.toArray := by
  apply Array.ext'
  apply List.ext_getElem?
  intro i
  by_cases h : i < n * c.size
  · have h0 : 0 < c.size := by
      rcases Nat.eq_zero_or_pos c.size with q | q
      · rw [q] at h; omega
      · exact q
    rw [List.toList_toArray, flat_rep_get _ _ _ (by simpa using h)]
    have hm : i % c.size < c.size := Nat.mod_lt _ h0
    simp [h, hm, getElem!_pos]
  · rw [List.getElem?_eq_none (by simp; omega), List.getElem?_eq_none (by simp; omega)]

/-- What came of an operation. -/
structure Done (P : Program) (N : Nat) (ρ : Env) (w : World) (v : AV) (s' : AS) (X : Nat → Prop) (V : Value) (w' : World) (ρ' : Env) : Prop where
  ext : Ext ρ ρ'
  rel : Rel ρ' v V
  ok : OkW N ρ' s' w'
  bel : Below N w w'
  keep : ∀ id, ¬ X id → ρ'.loc id = ρ.loc id

section
variable {P : Program} {N : Nat} {ρ : Env} {F : Fr} {a : Act} {o : Oper} {v : AV} {s : AS} {w : World}

theorem l_ok (hw : OkW N ρ s w) (hF : FrOk ρ F a) {l : LOp} (hc : cL P o.op = some l) {aid : Nat} (hlt : aid < s.n) (hnew : ρ.loc aid = none) {b : Blk} (hv : l.ev F aid = some (b, v)) :
    ∃ V w' ρ', (execOp a.eval o).run P w = .ok (.value V) w' ∧ Done P N ρ w v { s with h := s.h.upd aid (some b) } (fun id => id = aid) V w' ρ' := by
  have fin : ∀ (L : Loc) (ob : Obj), L.b = w.heap.size → OkB (ρ.put aid L) L (w.alloc ob) b → ∀ V, Rel (ρ.put aid L) v V → (execOp a.eval o).run P w = .ok (.value V) (w.alloc ob) → ∃ V w' ρ', (execOp a.eval o).run P w = .ok (.value V) w' ∧ Done P N ρ w v { s with h := s.h.upd aid (some b) } (fun id => id = aid) V w' ρ' := by
    intro L ob hb hok V hr hrun
    exact ⟨V, _, ρ.put aid L, hrun, Env.put_ext hnew, hr, new_ok hw hlt hnew hb hok, (Below.refl _ _).alloc hw.size _, fun id hid => Env.put_ne hid⟩
  generalize ho : o.op = op at hc
  unfold cL at hc
  split at hc
  · rename_i t
    simp only [Option.bind_eq_some_iff] at hc
    obtain ⟨z, hz, hc⟩ := hc
    split at hc
    · rename_i htb
      split at hc
      case h_2 => cases hc
      cases hc
      simp only [LOp.ev, Option.some.injEq, Prod.mk.injEq] at hv
      obtain ⟨rfl, rfl⟩ := hv
      let L : Loc := ⟨w.heap.size, 2, 1⟩
      obtain ⟨V0, h1, h2, h3⟩ := zeroT_ok (ρ := ρ.put aid L) hz
      refine fin L (.cells V0.cells t) rfl ⟨V0.cells, by rw [← htb]; exact heap_last w (.cells V0.cells t), rfl, rfl, h2⟩ _ (.ptr Env.put_self) ?_
      simp [execOp, ho, Instr.alloc, h1, newVar, newRow, L]
    cases hc
    simp only [LOp.ev, Option.some.injEq, Prod.mk.injEq] at hv
    obtain ⟨rfl, rfl⟩ := hv
    let L : Loc := ⟨w.heap.size, z.length, 1⟩
    obtain ⟨V0, h1, h2, h3⟩ := zeroT_ok (ρ := ρ.put aid L) hz
    refine fin L (.cells V0.cells t) rfl (okB_flat (Flat.one h2 h3) rfl (heap_last w (.cells V0.cells t))) _ (.ptr Env.put_self) ?_
    simp [execOp, ho, Instr.alloc, h1, newVar, newRow, L]
  · rename_i t x
    simp only [Option.map_eq_some_iff] at hc
    obtain ⟨x', hx, rfl⟩ := hc
    simp only [LOp.ev] at hv
    split at hv
    case isFalse => cases hv
    rename_i hs
    simp only [Option.some.injEq, Prod.mk.injEq] at hv
    obtain ⟨rfl, rfl⟩ := hv
    let L : Loc := ⟨w.heap.size, (x'.ev F).cells.length, 1⟩
    have h1 := (hF.ev hx).cells hs
    refine fin L (.cells (a.eval x).cells t) rfl (okB_flat (Flat.one (h1.mono (Env.put_ext hnew)) hs) rfl (heap_last w (.cells (a.eval x).cells t))) _ (.ptr Env.put_self) ?_
    simp [execOp, ho, Instr.box, newVar, newRow, L]
  · cases hc
    simp only [LOp.ev, Option.some.injEq, Prod.mk.injEq] at hv
    obtain ⟨rfl, rfl⟩ := hv
    let L : Loc := ⟨w.heap.size, 0, 0⟩
    refine fin L (.map #[] 0) rfl ⟨#[], 0, heap_last w _, rfl, rfl, fun i e h => by cases h⟩ _ (.map Env.put_self) ?_
    simp [execOp, ho, Instr.makeMap, L]
  · cases hc

/-- All cells of a block that is just made are frozen. -/
def Env.add (ρ : Env) (b : Nat) (c : Array Value) : Env := { loc := ρ.loc, imm := fun b' o => if b' = b then c[o]? else ρ.imm b' o }
theorem add_ext {ρ : Env} {b : Nat} {c : Array Value} (h : ∀ o, ρ.imm b o = none) : Ext ρ (ρ.add b c) :=
  ⟨fun _ _ h => h, fun b' o v hv => by
    show (if b' = b then c[o]? else ρ.imm b' o) = some v
    rw [if_neg (fun e => by rw [e, h] at hv; cases hv)]; exact hv⟩

theorem lit_ok (hw : OkW N ρ s w) {c : Array Value} {T : TypeId} : Ext ρ (ρ.add w.heap.size c) ∧ OkW N (ρ.add w.heap.size c) s (w.alloc (.cells c T)) := by
  have hnone : ∀ o, ρ.imm w.heap.size o = none := by
    intro o
    cases hi : ρ.imm w.heap.size o with
    | none => rfl
    | some v => have := cell_lt (hw.imm _ o v hi); omega
  have hx := add_ext (c := c) hnone
  have old : ∀ k, k < w.heap.size → (w.alloc (.cells c T)).heap[k]? = w.heap[k]? := fun k hk => Below.heap_alloc w _ k hk
  have hsz : (w.alloc (.cells c T)).heap.size = w.heap.size + 1 := by simp
  refine ⟨hx, fun id b hb => ?_, hw.inj, fun b o v hv => ?_, fun id L o a l => ?_, hw.new, by rw [hsz]; have := hw.size; omega⟩
  · obtain ⟨L, a1, a2, a3, a4⟩ := hw.own id b hb
    exact ⟨L, a1, a2, by rw [hsz]; omega, (a4.mono hx).world (old _ a3)⟩
  · have hv' : (if b = w.heap.size then c[o]? else ρ.imm b o) = some v := hv
    split at hv'
    · rename_i e
      subst e
      simp only [World.cell?, heap_last]
      simpa using hv'
    · have h0 := hw.imm b o v hv'
      rw [cell_world (old b (cell_lt h0))]; exact h0
  · obtain ⟨b0, hb0⟩ := Option.ne_none_iff_exists'.1 a
    obtain ⟨M, m1, _, m3, _⟩ := hw.own id b0 hb0
    have l' : ρ.loc id = some L := l
    rw [l'] at m1; cases m1
    show (if L.b = w.heap.size then c[o]? else ρ.imm L.b o) = none
    rw [if_neg (by omega)]
    exact hw.sep id L o a l'

def cK (P : Program) : Op → Option KOp
  | .buildSlice t n ps => match P.underlying t with
    | some (.slice e) => do
      let sz ← szT P e
      let z ← zeroT P e
      let l ← mapO (fun p : Nat × Operand => do pure (p.1, (← cO p.2))) ps.toList
      if z.length = sz ∧ n * sz ≤ 2 ^ 24 then pure { z := z, len := n, parts := l } else none
    | _ => none
  | _ => none

theorem k_ok (hw : OkW N ρ s w) (hF : FrOk ρ F a) {l : KOp} (hc : cK P o.op = some l) (hv : l.ev F = some v) :
    ∃ V w' ρ', (execOp a.eval o).run P w = .ok (.value V) w' ∧ Done P N ρ w v s (fun _ => False) V w' ρ' := by
  generalize ho : o.op = op at hc
  unfold cK at hc
  split at hc
  case h_2 => cases hc
  rename_i t n ps
  split at hc
  case h_2 => cases hc
  rename_i e hu
  simp only [Option.bind_eq_bind, Option.bind_eq_some_iff] at hc
  obtain ⟨sz, hs, z, hz, l', hl, hc⟩ := hc
  split at hc
  case isFalse => cases hc
  rename_i hcond
  obtain ⟨hzl, hbig⟩ := hcond
  cases hc
  obtain ⟨V0, z1, z2, z3⟩ := zeroT_ok (ρ := ρ) hz
  have hm := mapO_get hl
  have hps : (ps.toList.map fun p => (p.1, a.eval p.2)).length = (l'.map fun p => (p.1, p.2.ev F)).length ∧
      ∀ (j : Nat) p, (l'.map fun p => (p.1, p.2.ev F))[j]? = some p → ∃ q, (ps.toList.map fun p => (p.1, a.eval p.2))[j]? = some q ∧ q.1 = p.1 ∧ Rel ρ p.2 q.2 := by
    refine ⟨by simp [hm.1], fun j p hp => ?_⟩
    rw [List.getElem?_map, Option.map_eq_some_iff] at hp
    obtain ⟨y, hy, rfl⟩ := hp
    have hlt' : j < ps.toList.length := by rw [← hm.1]; exact (List.getElem?_eq_some_iff.1 hy).1
    obtain ⟨y', hy', he⟩ := hm.2 j _ (List.getElem?_eq_getElem hlt')
    rw [hy] at hy'
    cases hy'
    simp only [Option.bind_eq_some_iff, Option.pure_def, Option.some.injEq] at he
    obtain ⟨x, hx, hxy⟩ := he
    cases hxy
    exact ⟨(ps.toList[j].1, a.eval ps.toList[j].2), by rw [List.getElem?_map, List.getElem?_eq_getElem hlt']; rfl, rfl, hF.ev hx⟩
  have hzc : V0.cells.size = sz := by have := z2.len; simp at this; omega
  have hinit := zeros_eq V0.cells n
  rw [hzc] at hinit
  have hnb : ¬ (n * sz > 2 ^ 24) := by omega
  have hmap : (ps.map fun (x : Nat × Operand) => (x.1, a.eval x.2)).toList = ps.toList.map fun p => (p.1, a.eval p.2) := by simp
  have exec : ∀ us : List Value, Instr.fill (fun i => some (i * sz, sz)) (List.replicate n V0.cells.toList).flatten.toArray (ps.toList.map fun p => (p.1, a.eval p.2)) = some us.toArray → (execOp a.eval o).run P w = .ok (.value (.slice (some ⟨w.heap.size, 0, none⟩) n n)) (w.alloc (.cells us.toArray e)) := by
    intro us hu1
    by_cases h0 : n * sz = 0
    · have hr0 : ∀ f : Nat → Value, (Array.range 0).map f = #[] := fun f => by apply Array.ext'; simp
      have hnil : (List.replicate n V0.cells.toList).flatten.toArray = #[] := by rw [← hinit, h0]; exact hr0 _
      rw [hnil] at hu1
      simp only [execOp, ho, Instr.buildSlice, Sem.run_bind, run_underlying' hu, Result.andThen_ok, run_sizeOf' hs, h0, Nat.not_lt_zero, gt_iff_lt, if_false, if_true, Sem.run_pure, hr0, hmap, hu1]
      simp [newRow]
    · simp only [execOp, ho, Instr.buildSlice, Sem.run_bind, run_underlying' hu, Result.andThen_ok, run_sizeOf' hs, if_neg hnb, Sem.run_pure, if_neg h0, z1, hinit, hzc, hmap, hu1]
      simp [newRow]
  simp only [KOp.ev] at hv
  have main : ∀ rs, fillRows (List.replicate n z) (l'.map fun p => (p.1, p.2.ev F)) = some rs → ∃ us : List Value, Flat ρ sz rs us ∧ rs.length = n ∧ (execOp a.eval o).run P w = .ok (.value (.slice (some ⟨w.heap.size, 0, none⟩) n n)) (w.alloc (.cells us.toArray e)) := by
    intro rs hrs
    have hrep := Flat.rep z2 z3 n
    rw [hzl] at hrep
    obtain ⟨us, hu1, hu2, hu3⟩ := fillRows_ok (s := sz) _ _ _ _ _ hrs hrep hps.1 hps.2
    exact ⟨us, hu2, by rw [hu3]; simp, exec us hu1⟩
  split at hv
  · rename_i hrs
    cases hv
    obtain ⟨us, _, h2, h3⟩ := main [] hrs
    have hn0 : n = 0 := by simpa using h2.symm
    obtain ⟨hx, hok⟩ := lit_ok hw (c := us.toArray) (T := e)
    subst hn0
    exact ⟨_, _, _, h3, hx, .emp, hok, (Below.refl _ _).alloc hw.size _, fun _ _ => rfl⟩
  · rename_i rs hne hrs
    cases hv
    obtain ⟨us, h1, h2, h3⟩ := main rs hrs
    obtain ⟨hx, hok⟩ := lit_ok hw (c := us.toArray) (T := e)
    refine ⟨_, _, _, h3, hx, ?_, hok, (Below.refl _ _).alloc hw.size _, fun _ _ => rfl⟩
    rw [← h2]
    have hul := h1.len
    have himm : ∀ (i : Nat) row (j : Nat), rs[i]? = some row → j < sz → (ρ.add w.heap.size us.toArray).imm w.heap.size (0 + (i * sz + j)) = some (us.getD (i * sz + j) undef) := by
      intro i row j hi hj
      have := mul_lt (List.getElem?_eq_some_iff.1 hi).1 hj
      show (if w.heap.size = w.heap.size then us.toArray[0 + (i * sz + j)]? else _) = _
      rw [if_pos rfl, Nat.zero_add, List.getElem?_toArray, List.getD_eq_getElem?_getD, List.getElem?_eq_getElem (by omega)]
      rfl
    exact .ro (s := sz) (c := fun q => us.getD q undef) (Nat.le_refl _) h1.row himm (fun i row j x hi hj => (h1.cell i row j x hi hj).2.mono hx)
  · cases hv
end
end
end Go.Proofs.Ytgcciohenncplaa.Ai
