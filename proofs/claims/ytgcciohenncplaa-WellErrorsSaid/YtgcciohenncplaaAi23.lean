/- Code and calls: what the plain run says of a function holds of Go's. -/
import Derived.Test.YtgcciohenncplaaAi22
import Derived.LoopN
namespace Go.Proofs.Ytgcciohenncplaa.Ai
noncomputable section
open Go.RowKit (Below)

def badC : AC := .ops [{ ix := 0, dst := none, guard := none, op := .e .bad, ck := [] }] 1 []
/-- What is told of a function: the rows whose order is open, and the slots to forget behind each row. -/
structure Notes where
  note : Nat → Option Note
  keep : Nat → List Nat

def cCode (P : Program) (q : Nat → Bool) (T : Notes) : Code → AC
  | .skip => .skip
  | .region id ops false => .ops ((List.range ops.size).map (cI P q ops)) ops.size (T.keep id)
  | .region id ops true => match T.note id with
    | some N => if fitB ops N (mkRow P q ops N) = true then .ops ((mkRow P q ops N).out N.perm) ops.size (T.keep id) else badC
    | none => badC
  | .seq a b => .seq (cCode P q T a) (cCode P q T b)
  | .cond c a b => match cO c with
    | some x => .cond x (cCode P q T a) (cCode P q T b)
    | none => badC
  | .block id a => .block id (cCode P q T a)
  | .loop a => .loop (cCode P q T a)
  | .exit id => .exit id
  | .ret => .ret
  | _ => badC

def cRes (P : Program) : List ResultVar → Option (List ARes)
  | [] => some []
  | .tmp t :: l => (cRes P l).map (.tmp t :: ·)
  | .cell a t :: l => match isRowT P t, szT P t, cRes P l with
    | some ag, some sz, some r => some (.cell a ag sz :: r)
    | _, _, _ => none
def cFn (P : Program) (q : Nat → Bool) (T : Notes) (fn : Func) : Option AFn :=
  match fn.body, cRes P fn.results.toList with
  | some c, some r => if fn.name == "runtime.NumGoroutine" then none else some { nargs := fn.params.size + fn.nfree, ntmps := fn.ntmps, res := r, code := cCode P q T c }
  | _, _ => none

def exOf : Ex → Exit
  | .norm => .normal
  | .exit id => .exit id
  | .ret => .ret

section
variable {P : Program} {call : Nat → List AV → M AV}

theorem loopF_stat {body : Fr → M (Ex × Fr)} (hb : ∀ F s e F' s', body F s = some ((e, F'), s') → s.lim ≤ s.n → Stat s s') : ∀ (n : Nat) (F : Fr) (s : AS) (e : Ex) (F' : Fr) (s' : AS), loopF body n F s = some ((e, F'), s') → s.lim ≤ s.n → Stat s s'
  | 0, F, s, e, F', s', h, _ => by simp only [loopF] at h; cases h
  | n + 1, F, s, e, F', s', h, hl => by
    simp only [loopF] at h
    split at h
    · rename_i F1 s1 h1
      have g := hb _ _ _ _ _ h1 hl
      exact g.trans (loopF_stat hb n F1 s1 e F' s' h (by rw [g.lim]; have := g.n; omega))
    · exact hb _ _ _ _ _ h hl

theorem acode_stat (hc : CallOk P call) (fuel : Nat) : ∀ (c : AC) (F : Fr) (s : AS) (e : Ex) (F' : Fr) (s' : AS), acode call fuel c F s = some ((e, F'), s') → s.lim ≤ s.n → Stat s s'
  | .skip, F, s, e, F', s', h, _ => by simp only [acode, Option.some.injEq, Prod.mk.injEq] at h; rw [← h.2]; exact Stat.refl _
  | .exit id, F, s, e, F', s', h, _ => by simp only [acode, Option.some.injEq, Prod.mk.injEq] at h; rw [← h.2]; exact Stat.refl _
  | .ret, F, s, e, F', s', h, _ => by simp only [acode, Option.some.injEq, Prod.mk.injEq] at h; rw [← h.2]; exact Stat.refl _
  | .ops l n keep, F, s, e, F', s', h, hl => by
    simp only [acode] at h
    split at h
    · rename_i F1 s1 h1
      simp only [Option.some.injEq, Prod.mk.injEq] at h
      obtain ⟨_, rfl⟩ := h
      have g := runOps_stat (P := P) hc h1 (by simpa using hl) (by simp; omega)
      exact ⟨by have := g.n; simp at this; omega, g.lim, g.old⟩
    · cases h
  | .seq a b, F, s, e, F', s', h, hl => by
    simp only [acode] at h
    split at h
    · rename_i F1 s1 h1
      have g := acode_stat hc fuel a _ _ _ _ _ h1 hl
      exact g.trans (acode_stat hc fuel b _ _ _ _ _ h (by rw [g.lim]; have := g.n; omega))
    · exact acode_stat hc fuel a _ _ _ _ _ h hl
  | .cond c a b, F, s, e, F', s', h, hl => by
    simp only [acode] at h
    split at h
    · exact acode_stat hc fuel a _ _ _ _ _ h hl
    · exact acode_stat hc fuel b _ _ _ _ _ h hl
    · cases h
  | .block id a, F, s, e, F', s', h, hl => by
    simp only [acode] at h
    split at h
    · rename_i j F1 s1 h1
      simp only [Option.some.injEq, Prod.mk.injEq] at h
      rw [← h.2]
      exact acode_stat hc fuel a _ _ _ _ _ h1 hl
    · exact acode_stat hc fuel a _ _ _ _ _ h hl
  | .loop a, F, s, e, F', s', h, hl => by
    simp only [acode] at h
    exact loopF_stat (fun F s e F' s' => acode_stat hc fuel a F s e F' s') fuel F s e F' s' h hl

theorem forgetFrom_len : ∀ (F : Fr) (i : Nat) (l : List Nat), (forgetFrom i F l).length = F.length
  | [], i, l => by unfold forgetFrom; rfl
  | x :: F, i, [] => by unfold forgetFrom; rw [List.length_cons, forgetFrom_len F]; rfl
  | x :: F, i, j :: r => by
    unfold forgetFrom
    cases Nat.beq i j with
    | true => rw [cond_true, List.length_cons, forgetFrom_len F]; rfl
    | false => rw [cond_false, List.length_cons, forgetFrom_len F]; rfl
theorem forgetFrom_get {y : AV} : ∀ (F : Fr) (i : Nat) (l : List Nat) (k : Nat), (forgetFrom i F l)[k]? = some y → y = .top ∨ F[k]? = some y
  | [], i, l, k, h => by unfold forgetFrom at h; exact .inr h
  | x :: F, i, [], k, h => by
    unfold forgetFrom at h
    cases k with
    | zero => cases h; exact .inl rfl
    | succ k => exact forgetFrom_get F _ _ k h
  | x :: F, i, j :: r, k, h => by
    unfold forgetFrom at h
    cases hb : Nat.beq i j with
    | true =>
      rw [hb, cond_true] at h
      cases k with
      | zero => exact .inr h
      | succ k => exact forgetFrom_get F _ _ k h
    | false =>
      rw [hb, cond_false] at h
      cases k with
      | zero => cases h; exact .inl rfl
      | succ k => exact forgetFrom_get F _ _ k h
theorem forget_ok {ρ : Env} {a : Act} (l : List Nat) (F : Fr) (h : FrOk ρ F a) : FrOk ρ (forget F l) a := by
  refine ⟨⟨by unfold forget; rw [forgetFrom_len]; exact h.rel.len, fun j x hx => ?_⟩, h.nod⟩
  rcases forgetFrom_get F 0 l j hx with rfl | hx'
  · exact .top
  · exact h.rel.at_ j x hx'

/-- What a piece of code leaves, as a rule. -/
def CodeOk (P : Program) (c : Code) (F : Fr) (s : AS) (e : Ex) (F' : Fr) (s' : AS) : Prop :=
  ∀ N ρ a w (Q : Exit → Act → World → Prop), OkW N ρ s w → FrOk ρ F a → (∀ a' w' ρ', Left N ρ w F' s' (fun id => s.n ≤ id) a' w' ρ' → Q (exOf e) a' w') → c.wp P Q a w

theorem bad_none {fuel : Nat} {F : Fr} {s : AS} {r : (Ex × Fr) × AS} (h : acode call fuel badC F s = some r) : False := by
  simp only [badC, acode, runOps, AIns.step, AIns.wanted, wantedG, AOp.ev, EOp.ev] at h; cases h

theorem loop_ok {c : Code} {body : Fr → M (Ex × Fr)} (hst : ∀ F s e F' s', body F s = some ((e, F'), s') → s.lim ≤ s.n → Stat s s') (hb : ∀ F s e F' s', body F s = some ((e, F'), s') → s.lim ≤ s.n → CodeOk P c F s e F' s') :
    ∀ (n : Nat) (F : Fr) (s : AS) (e : Ex) (F' : Fr) (s' : AS), loopF body n F s = some ((e, F'), s') → s.lim ≤ s.n → ∀ N ρ a w (Q : Exit → Act → World → Prop), OkW N ρ s w → FrOk ρ F a → (∀ a' w' ρ', Left N ρ w F' s' (fun id => s.n ≤ id) a' w' ρ' → Q (exOf e) a' w') → Code.rounds P c Q n a w
  | 0, F, s, e, F', s', h, _ => by simp only [loopF] at h; cases h
  | n + 1, F, s, e, F', s', h, hl => by
    intro N ρ a w Q hw hF hQ
    simp only [loopF] at h
    split at h
    · rename_i F1 s1 h1
      have g := hst _ _ _ _ _ h1 hl
      have hl1 : s1.lim ≤ s1.n := by rw [g.lim]; have := g.n; omega
      have key := loop_ok hst hb n F1 s1 e F' s' h hl1
      have sub : ∀ a1 w1 ρ1, Left N ρ w F1 s1 (fun id => s.n ≤ id) a1 w1 ρ1 → Code.rounds P c Q n a1 w1 := fun a1 w1 ρ1 hl' =>
        key N ρ1 a1 w1 Q hl'.ok hl'.fr fun a2 w2 ρ2 h2 => hQ _ _ ρ2 (hl'.trans h2 (fun _ q => q) (fun id q => by have := g.n; show s.n ≤ id; have q' : s1.n ≤ id := q; omega))
      rw [rounds_succ]
      exact hb _ _ _ _ _ h1 hl N ρ a w _ hw hF fun a1 w1 ρ1 hl' => sub a1 w1 ρ1 hl'
    · rename_i hne
      have hen : e ≠ .norm := by
        rintro rfl
        exact hne F' s' h
      rw [rounds_succ]
      refine hb _ _ _ _ _ h hl N ρ a w _ hw hF fun a1 w1 ρ1 hl' => ?_
      cases e with
      | norm => exact absurd rfl hen
      | exit id => exact hQ a1 w1 ρ1 hl'
      | ret => exact hQ a1 w1 ρ1 hl'

theorem code_ok (hm : P.follows .mixedOrders = true) (hc : CallOk P call) {q : Nat → Bool} {T : Notes} (fuel : Nat) : ∀ (c : Code) (F : Fr) (s : AS) (e : Ex) (F' : Fr) (s' : AS), acode call fuel (cCode P q T c) F s = some ((e, F'), s') → s.lim ≤ s.n → CodeOk P c F s e F' s' := by
  intro c
  induction c with
  | skip =>
    intro F s e F' s' h hl N ρ a w Q hw hF hQ
    simp only [cCode, acode, Option.some.injEq, Prod.mk.injEq] at h
    obtain ⟨⟨rfl, rfl⟩, rfl⟩ := h
    exact wp_skip (hQ _ _ ρ (Left.refl hF hw))
  | exit id =>
    intro F s e F' s' h hl N ρ a w Q hw hF hQ
    simp only [cCode, acode, Option.some.injEq, Prod.mk.injEq] at h
    obtain ⟨⟨rfl, rfl⟩, rfl⟩ := h
    exact wp_exit (hQ _ _ ρ (Left.refl hF hw))
  | ret =>
    intro F s e F' s' h hl N ρ a w Q hw hF hQ
    simp only [cCode, acode, Option.some.injEq, Prod.mk.injEq] at h
    obtain ⟨⟨rfl, rfl⟩, rfl⟩ := h
    exact wp_ret (hQ _ _ ρ (Left.refl hF hw))
  | region id ops draw =>
    intro F s e F' s' h hl N ρ a w Q hw hF hQ
    have hw1 : OkW N ρ { s with n := s.n + ops.size } w := ⟨hw.own, hw.inj, hw.imm, hw.sep, fun id hid => hw.new id (by have : s.n + ops.size ≤ id := hid; omega), hw.size⟩
    have hfree : ∀ i, i < ops.size → ρ.loc (s.n + i) = none := fun i _ => hw.new _ (by omega)
    cases draw with
    | false =>
      simp only [cCode, acode] at h
      split at h
      case h_2 => cases h
      rename_i F1 s1 h1
      simp only [Option.some.injEq, Prod.mk.injEq] at h
      obtain ⟨⟨rfl, rfl⟩, rfl⟩ := h
      refine wp_region ((ops_ok hc (List.range ops.size) F F1 { s with n := s.n + ops.size } s1 ρ a w List.nodup_range hw1 hF (fun i hi => ?_) (by simpa using hl) h1).2 Q fun a' w' ρ' hl' => hQ a' w' ρ' ⟨hl'.ext, forget_ok _ _ hl'.fr, hl'.ok, hl'.bel, fun id hid => hl'.keep id fun q' => hid ?_⟩)
      · have := List.mem_range.1 hi
        exact ⟨by show s.n + i < s.n + ops.size; omega, hfree i this⟩
      · rcases q' with ⟨i, _, e⟩ | e
        · show s.n ≤ id; omega
        · have : s.n + ops.size ≤ id := e
          show s.n ≤ id; omega
    | true =>
      simp only [cCode] at h
      split at h
      case h_2 => exact (bad_none h).elim
      rename_i Nt hN
      split at h
      case isFalse => exact (bad_none h).elim
      rename_i hfit
      simp only [acode] at h
      split at h
      case h_2 => cases h
      rename_i F1 s1 h1
      simp only [Option.some.injEq, Prod.mk.injEq] at h
      obtain ⟨⟨rfl, rfl⟩, rfl⟩ := h
      exact draw_ok hm hc hfit hw1 hF (base := s.n) (by simp) hfree (by simpa using hl) h1 fun a' w' ρ' hl' => hQ a' w' ρ' ⟨hl'.ext, forget_ok _ _ hl'.fr, hl'.ok, hl'.bel, hl'.keep⟩
  | seq x y ihx ihy =>
    intro F s e F' s' h hl N ρ a w Q hw hF hQ
    simp only [cCode, acode] at h
    split at h
    · rename_i F1 s1 h1
      have g := acode_stat hc fuel _ _ _ _ _ _ h1 hl
      have hl1 : s1.lim ≤ s1.n := by rw [g.lim]; have := g.n; omega
      refine wp_seq (ihx _ _ _ _ _ h1 hl N ρ a w _ hw hF fun a1 w1 ρ1 hl' => ?_)
      exact ihy _ _ _ _ _ h hl1 N ρ1 a1 w1 Q hl'.ok hl'.fr fun a2 w2 ρ2 h2 => hQ _ _ ρ2 (hl'.trans h2 (fun _ q' => q') (fun id q' => by have := g.n; show s.n ≤ id; have q'' : s1.n ≤ id := q'; omega))
    · rename_i hne
      refine wp_seq (ihx _ _ _ _ _ h hl N ρ a w _ hw hF fun a1 w1 ρ1 hl' => ?_)
      cases e with
      | norm => exact absurd h (hne F' s')
      | exit id => exact hQ a1 w1 ρ1 hl'
      | ret => exact hQ a1 w1 ρ1 hl'
  | cond c x y ihx ihy =>
    intro F s e F' s' h hl N ρ a w Q hw hF hQ
    simp only [cCode] at h
    split at h
    case h_2 => exact (bad_none h).elim
    rename_i c' hc'
    have h1 := hF.ev hc'
    simp only [acode] at h
    split at h
    · rename_i hb; rw [hb] at h1
      exact wp_cond_true h1.of_bool (ihx _ _ _ _ _ h hl N ρ a w Q hw hF hQ)
    · rename_i hb; rw [hb] at h1
      exact wp_cond_false h1.of_bool (ihy _ _ _ _ _ h hl N ρ a w Q hw hF hQ)
    · cases h
  | block id x ih =>
    intro F s e F' s' h hl N ρ a w Q hw hF hQ
    simp only [cCode, acode] at h
    refine wp_block ?_
    split at h
    · rename_i j F1 s1 h1
      simp only [Option.some.injEq, Prod.mk.injEq] at h
      obtain ⟨⟨rfl, rfl⟩, rfl⟩ := h
      refine ih _ _ _ _ _ h1 hl N ρ a w _ hw hF fun a1 w1 ρ1 hl' => ?_
      have := hQ a1 w1 ρ1 hl'
      show if j = id then _ else _
      by_cases e : j = id
      · rw [if_pos e]
        rw [show Nat.beq j id = true by rw [e]; exact Nat.beq_refl id] at this
        exact this
      · rw [if_neg e]
        have hb : Nat.beq j id = false := by
          cases hb : Nat.beq j id with
          | false => rfl
          | true => exact absurd (Nat.eq_of_beq_eq_true hb) e
        rw [hb] at this
        exact this
    · rename_i hne
      refine ih _ _ _ _ _ h hl N ρ a w _ hw hF fun a1 w1 ρ1 hl' => ?_
      cases e with
      | norm => exact hQ a1 w1 ρ1 hl'
      | exit j => exact absurd h (hne j F' s')
      | ret => exact hQ a1 w1 ρ1 hl'
  | loop x ih =>
    intro F s e F' s' h hl N ρ a w Q hw hF hQ
    simp only [cCode, acode] at h
    exact wp_loop_rounds fuel (loop_ok (fun F s e F' s' h => acode_stat hc fuel _ F s e F' s' h) (fun F s e F' s' h hl => ih F s e F' s' h hl) fuel F s e F' s' h hl N ρ a w Q hw hF hQ)
  | _ =>
    intro F s e F' s' h hl
    simp only [cCode] at h
    exact (bad_none h).elim
end
end
end Go.Proofs.Ytgcciohenncplaa.Ai
