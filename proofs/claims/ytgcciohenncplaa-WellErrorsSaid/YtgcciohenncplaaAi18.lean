/- A row of operations in the order of the text. -/
import Derived.Test.YtgcciohenncplaaAi17
namespace Go.Proofs.Ytgcciohenncplaa.Ai
noncomputable section
open Go.RowKit (Below)

/-- What a piece of the run leaves. -/
structure Left (N : Nat) (ρ : Env) (w : World) (F' : Fr) (s' : AS) (X : Nat → Prop) (a' : Act) (w' : World) (ρ' : Env) : Prop where
  ext : Ext ρ ρ'
  fr : FrOk ρ' F' a'
  ok : OkW N ρ' s' w'
  bel : Below N w w'
  keep : ∀ id, ¬ X id → ρ'.loc id = ρ.loc id
theorem Left.refl {N : Nat} {ρ : Env} {w : World} {F : Fr} {s : AS} {X : Nat → Prop} {a : Act} (h1 : FrOk ρ F a) (h2 : OkW N ρ s w) : Left N ρ w F s X a w ρ := ⟨Ext.refl _, h1, h2, Below.refl _ _, fun _ _ => rfl⟩
theorem Left.trans {N : Nat} {ρ ρ' ρ'' : Env} {w w' w'' : World} {F F' : Fr} {s s' : AS} {X Y Z : Nat → Prop} {a a' : Act} (h : Left N ρ w F s X a w' ρ') (h' : Left N ρ' w' F' s' Y a' w'' ρ'') (hX : ∀ id, X id → Z id) (hY : ∀ id, Y id → Z id) : Left N ρ w F' s' Z a' w'' ρ'' :=
  ⟨h.ext.trans h'.ext, h'.fr, h'.ok, h.bel.trans h'.bel, fun id hid => (h'.keep id fun q => hid (hY id q)).trans (h.keep id fun q => hid (hX id q))⟩
theorem Left.weak {N : Nat} {ρ ρ' : Env} {w w' : World} {F : Fr} {s : AS} {X Y : Nat → Prop} {a : Act} (h : Left N ρ w F s X a w' ρ') (hX : ∀ id, X id → Y id) : Left N ρ w F s Y a w' ρ' :=
  ⟨h.ext, h.fr, h.ok, h.bel, fun id hid => h.keep id fun q => hid (hX id q)⟩

/-- What was there and may not be written stays. -/
structure Stat (s s' : AS) : Prop where
  n : s.n ≤ s'.n
  lim : s'.lim = s.lim
  old : ∀ id, id < s.lim → s'.h id = s.h id
theorem Stat.refl (s : AS) : Stat s s := ⟨Nat.le_refl _, rfl, fun _ _ => rfl⟩
theorem Stat.trans {s s' s'' : AS} (h : Stat s s') (h' : Stat s' s'') : Stat s s'' :=
  ⟨Nat.le_trans h.n h'.n, h'.lim.trans h.lim, fun id hid => (h'.old id (by rw [h.lim]; exact hid)).trans (h.old id hid)⟩

section
variable {P : Program} {N : Nat} {ρ : Env} {F : Fr} {a : Act} {o : Oper} {v : AV} {s s' : AS} {w : World} {call : Nat → List AV → M AV}

theorem op_ok (hc : CallOk P call) {q : Nat → Bool} (hw : OkW N ρ s w) (hF : FrOk ρ F a) {aid : Nat} (hlt : aid < s.n) (hnew : ρ.loc aid = none) (hlim : s.lim ≤ aid) (hv : (cOp P q o.op).ev call F aid s = some (v, s')) :
    Stat s s' ∧ ∀ (K : Act → World → Prop) (Q : Exit → Act → World → Prop), (∀ V w' ρ', Done P N ρ w v s' (fun id => id = aid ∨ s.n ≤ id) V w' ρ' → K (a.put o.dst V) w') → o.wp P a w K Q := by
  unfold cOp at hv
  split at hv
  · rename_i p hp
    simp only [AOp.ev] at hv
    split at hv
    case h_2 => cases hv
    rename_i v' hv'
    cases hv
    obtain ⟨V, hr, hy⟩ := cP_ok hF hp hv'
    refine ⟨Stat.refl _, fun K Q hK => ?_⟩
    unfold Oper.wp
    rw [hy w]
    exact hK V w ρ ⟨Ext.refl _, hr, hw, Below.refl _ _, fun _ _ => rfl⟩
  · split at hv
    · rename_i r hr
      simp only [AOp.ev] at hv
      split at hv
      case h_2 => cases hv
      rename_i v' hv'
      cases hv
      have : ∃ V, Rel ρ v V ∧ (execOp a.eval o).run P w = .ok (.value V) w := by
        generalize ho : o.op = op at hr
        unfold cR at hr
        split at hr
        · simp only [Option.bind_eq_bind, Option.bind_eq_some_iff, Option.pure_def, Option.some.injEq] at hr
          obtain ⟨ag, hg, sz, hs, x', hx, rfl⟩ := hr
          exact r_load hw hF hg hs ho hx hv'
        · simp only [Option.bind_eq_bind, Option.bind_eq_some_iff, Option.pure_def, Option.some.injEq] at hr
          obtain ⟨⟨kt, ks, et⟩, hp, z, hz, m', hm, k', hk, rfl⟩ := hr
          exact r_lookup hw hF hp hz ho hm hk hv'
        · cases hr
      obtain ⟨V, hrel, hrun⟩ := this
      refine ⟨Stat.refl _, fun K Q hK => ?_⟩
      unfold Oper.wp
      rw [hrun]
      exact hK V w ρ ⟨Ext.refl _, hrel, hw, Below.refl _ _, fun _ _ => rfl⟩
    · split at hv
      · rename_i k hk
        simp only [AOp.ev] at hv
        split at hv
        case h_2 => cases hv
        rename_i v' hv'
        cases hv
        obtain ⟨V, w', ρ', hrun, hd⟩ := k_ok hw hF hk hv'
        refine ⟨Stat.refl _, fun K Q hK => ?_⟩
        unfold Oper.wp
        rw [hrun]
        exact hK V w' ρ' ⟨hd.ext, hd.rel, hd.ok, hd.bel, fun id hid => hd.keep id fun q => q.elim⟩
      split at hv
      · rename_i l hl
        simp only [AOp.ev] at hv
        split at hv
        case h_2 => cases hv
        rename_i b v' hfree hv'
        cases hv
        obtain ⟨V, w', ρ', hrun, hd⟩ := l_ok hw hF hl hlt hnew hv'
        refine ⟨⟨Nat.le_refl _, rfl, fun id hid => upd_ne _ _ (by omega)⟩, fun K Q hK => ?_⟩
        unfold Oper.wp
        rw [hrun]
        exact hK V w' ρ' ⟨hd.ext, hd.rel, hd.ok, hd.bel, fun id hid => hd.keep id fun q => hid (.inl q)⟩
      · split at hv
        · rename_i e he
          obtain ⟨⟨h1, h2, h3⟩, h4⟩ := e_ok hc hw hF he hlt hnew hlim hv
          exact ⟨⟨h1, h2, h3⟩, h4⟩
        · simp only [AOp.ev, EOp.ev] at hv; cases hv

theorem wanted_ok (hF : FrOk ρ F a) {ops : Array Oper} {j t i : Nat} {d : Option Nat} {p : AOp} {ck : List (Option (Nat × Bool) × ROp)} {want r : Bool} (ht : (ops[j]?).bind (·.dst) = some t) (hg : o.guard = some (j, want)) (hr : AIns.wanted F { ix := i, dst := d, guard := some (t, want), op := p, ck := ck } = some r) : Region.wanted o (yielded ops a.tmps) = r := by
  unfold AIns.wanted wantedG at hr
  simp only at hr
  unfold Region.wanted
  rw [hg]
  simp only
  have key : ∀ y, F[t]? = some y → Rel ρ y (a.tmps.toList.getD t undef) ∧ t < a.tmps.size := by
    intro y hy
    refine ⟨hF.rel.at_ t y hy, ?_⟩
    have := hF.rel.len
    have h2 := (List.getElem?_eq_some_iff.1 hy).1
    simp at this; omega
  split at hr
  · rename_i b hb
    cases hr
    cases hy : F[t]? with
    | none => rw [List.getD_eq_getElem?_getD, hy] at hb; cases hb
    | some y =>
      rw [List.getD_eq_getElem?_getD, hy] at hb
      have hb' : y = .bool b := hb
      subst hb'
      obtain ⟨h1, h2⟩ := key _ hy
      have h3 := h1.of_bool
      have : a.tmps[t]? = some (.bool b) := by
        rw [Array.getElem?_eq_getElem h2]
        rw [List.getD_eq_getElem?_getD] at h3
        simpa [h2] using h3
      simp [yielded, ht, this]
  · rename_i vs hb
    cases hr
    cases hy : F[t]? with
    | none => rw [List.getD_eq_getElem?_getD, hy] at hb; cases hb
    | some y =>
      rw [List.getD_eq_getElem?_getD, hy] at hb
      have hb' : y = .tup vs := hb
      subst hb'
      obtain ⟨h1, h2⟩ := key _ hy
      obtain ⟨us, h3, _⟩ := h1.of_tup
      have : a.tmps[t]? = some (.tuple us.toArray) := by
        rw [Array.getElem?_eq_getElem h2]
        rw [List.getD_eq_getElem?_getD] at h3
        simpa [h2] using h3
      simp [yielded, ht, this]
  · cases hr

theorem ev_stat (hc : CallOk P call) {op : AOp} {aid : Nat} (hv : op.ev call F aid s = some (v, s')) (h1 : s.lim ≤ aid) (h2 : s.lim ≤ s.n) : Stat s s' := by
  have upd1 : ∀ {id : Nat} {b : Option Blk}, s.lim ≤ id → Stat s { s with h := s.h.upd id b } := fun h => ⟨Nat.le_refl _, rfl, fun j hj => upd_ne _ _ (by omega)⟩
  cases op with
  | p o =>
    simp only [AOp.ev] at hv
    split at hv
    · cases hv; exact Stat.refl _
    · cases hv
  | r o =>
    simp only [AOp.ev] at hv
    split at hv
    · cases hv; exact Stat.refl _
    · cases hv
  | k o =>
    simp only [AOp.ev] at hv
    split at hv
    · cases hv; exact Stat.refl _
    · cases hv
  | l o =>
    simp only [AOp.ev] at hv
    split at hv
    · cases hv; exact upd1 h1
    · cases hv
  | e o =>
    cases o with
    | store x y sz =>
      simp only [AOp.ev, EOp.ev] at hv
      split at hv
      case h_2 => cases hv
      split at hv
      case h_2 => cases hv
      split at hv
      case h_2 => cases hv
      split at hv
      case isFalse => cases hv
      rename_i hcc
      cases hv
      exact upd1 (Nat.le_of_ble_eq_true hcc.2.2.2)
    | append sz bytes x y =>
      simp only [AOp.ev, EOp.ev] at hv
      split at hv
      case h_1 => cases hv
      split at hv
      case isFalse => cases hv
      split at hv
      · split at hv
        · cases hv; exact Stat.refl _
        · split at hv
          · cases hv; exact upd1 h1
          · cases hv
      · split at hv
        · cases hv; exact Stat.refl _
        · split at hv
          · cases hv; exact upd1 h1
          · cases hv
      · split at hv
        case h_2 => cases hv
        split at hv
        case isFalse => cases hv
        rename_i hcc
        have hid := Nat.le_of_ble_eq_true hcc.2.2.1
        split at hv
        · cases hv; exact upd1 hid
        · cases hv
          refine ⟨Nat.le_refl _, rfl, fun j hj => ?_⟩
          show (s.h.upd _ none).upd aid _ j = s.h j
          rw [upd_ne _ _ (by omega), upd_ne _ _ (by omega)]
      · cases hv
    | mapset ks m k x =>
      simp only [AOp.ev, EOp.ev] at hv
      split at hv
      case h_2 => cases hv
      split at hv
      case h_2 => cases hv
      split at hv
      case isFalse => cases hv
      rename_i hcc
      split at hv
      case h_2 => cases hv
      cases hv
      exact upd1 (Nat.le_of_ble_eq_true hcc.1)
    | mapent ks z m k =>
      simp only [AOp.ev, EOp.ev] at hv
      split at hv
      case h_2 => cases hv
      split at hv
      case h_2 => cases hv
      split at hv
      case isFalse => cases hv
      rename_i hcc
      split at hv
      case h_2 => cases hv
      cases hv
      exact upd1 (Nat.le_of_ble_eq_true hcc.1)
    | entset m st x =>
      simp only [AOp.ev, EOp.ev] at hv
      split at hv
      case h_2 => cases hv
      split at hv
      case h_2 => cases hv
      split at hv
      case isFalse => cases hv
      rename_i hcc
      split at hv
      case h_2 => cases hv
      cases hv
      exact upd1 (Nat.le_of_ble_eq_true hcc.1)
    | call q f args =>
      simp only [AOp.ev, EOp.ev] at hv
      split at hv
      · obtain ⟨g1, g2, g3⟩ := quiet_stat hc hv
        exact ⟨g1, g2, fun id _ => by rw [g3]⟩
      · obtain ⟨g1, g2, g3⟩ := hc.stat _ _ _ _ _ hv h2
        exact ⟨g1, g2, g3⟩
    | callv q f args =>
      simp only [AOp.ev, EOp.ev] at hv
      split at hv
      case h_2 => cases hv
      split at hv
      · obtain ⟨g1, g2, g3⟩ := quiet_stat hc hv
        exact ⟨g1, g2, fun id _ => by rw [g3]⟩
      · obtain ⟨g1, g2, g3⟩ := hc.stat _ _ _ _ _ hv h2
        exact ⟨g1, g2, g3⟩
    | bad => simp only [AOp.ev, EOp.ev] at hv; cases hv
theorem step_stat (hc : CallOk P call) {i : AIns} {base : Nat} {F' : Fr} (hv : i.step call base F s = some (F', s')) (h1 : s.lim ≤ base) (h2 : s.lim ≤ s.n) : Stat s s' := by
  unfold AIns.step at hv
  split at hv
  · split at hv
    · rename_i h
      split at hv
      · cases hv; exact ev_stat hc h (by omega) h2
      · cases hv
    · cases hv
  · cases hv; exact Stat.refl _
  · cases hv
theorem runOps_stat (hc : CallOk P call) {base : Nat} : ∀ {l : List AIns} {F F' : Fr} {s s' : AS}, runOps call base l F s = some (F', s') → s.lim ≤ base → s.lim ≤ s.n → Stat s s'
  | [], F, F', s, s', h, _, _ => by simp only [runOps, Option.some.injEq, Prod.mk.injEq] at h; rw [h.2]; exact Stat.refl _
  | i :: l, F, F', s, s', h, h1, h2 => by
    simp only [runOps] at h
    split at h
    case h_2 => cases h
    rename_i F1 s1 hs
    have g := step_stat hc hs h1 h2
    exact g.trans (runOps_stat hc h (by rw [g.lim]; exact h1) (by rw [g.lim]; have := g.n; omega))

theorem undef_rel {ρ : Env} : Rel ρ (.tup []) undef := .tup (vs := #[]) rfl (fun j x h => by cases h)

/-- One operation of a row. -/
theorem step_ok (hc : CallOk P call) {q : Nat → Bool} {ops : Array Oper} {i base : Nat} {F' : Fr} (hw : OkW N ρ s w) (hF : FrOk ρ F a) (hlt : base + i < s.n) (hnew : ρ.loc (base + i) = none) (hlim : s.lim ≤ base + i)
    (hv : (cI P q ops i).step call base F s = some (F', s')) :
    Stat s s' ∧ ∀ (K : Act → World → Prop) (Q : Exit → Act → World → Prop), (∀ a' w' ρ', Left N ρ w F' s' (fun id => id = base + i ∨ s.n ≤ id) a' w' ρ' → K a' w') → wpOp P ops Q i K a w := by
  unfold cI at hv
  split at hv
  · simp only [AIns.step, AIns.wanted, wantedG, AOp.ev, EOp.ev] at hv; cases hv
  · rename_i o ho
    have main : ∀ {v s1}, (cOp P q o.op).ev call F (base + i) s = some (v, s1) → Stat s s1 ∧ ∀ (K : Act → World → Prop) (Q : Exit → Act → World → Prop), (∀ a' w' ρ', Left N ρ w (putD F o.dst v) s1 (fun id => id = base + i ∨ s.n ≤ id) a' w' ρ' → K a' w') → o.wp P a w K Q := by
      intro v s1 h
      obtain ⟨h1, h2⟩ := op_ok hc hw hF hlt hnew hlim h
      refine ⟨h1, fun K Q hK => h2 K Q fun V w' ρ' hd => hK _ _ ρ' ⟨hd.ext, (hF.mono hd.ext).put o.dst hd.rel, hd.ok, hd.bel, hd.keep⟩⟩
    have skip : ∀ (K : Act → World → Prop), (∀ a' w' ρ', Left N ρ w (putD F o.dst (.tup [])) s (fun id => id = base + i ∨ s.n ≤ id) a' w' ρ' → K a' w') → K (a.put o.dst undef) w :=
      fun K hK => hK _ _ ρ ⟨Ext.refl _, hF.put o.dst undef_rel, hw, Below.refl _ _, fun _ _ => rfl⟩
    split at hv
    · rename_i hg
      simp only [AIns.step, AIns.wanted, wantedG, List.all_nil, if_true] at hv
      split at hv
      case h_2 => cases hv
      rename_i v s1 h1
      cases hv
      obtain ⟨g1, g2⟩ := main h1
      refine ⟨g1, fun K Q hK => ?_⟩
      have hwant : Region.wanted o (yielded ops a.tmps) = true := by unfold Region.wanted; rw [hg]
      unfold wpOp
      simp only [ho, hwant, if_true]
      exact .inl (g2 K Q hK)
    · rename_i j want hg
      split at hv
      · rename_i t ht
        simp only [AIns.step, List.all_nil, if_true] at hv
        split at hv
        · rename_i hwn
          have hwant := wanted_ok hF ht hg hwn
          split at hv
          case h_2 => cases hv
          rename_i v s1 h1
          cases hv
          obtain ⟨g1, g2⟩ := main h1
          refine ⟨g1, fun K Q hK => ?_⟩
          unfold wpOp
          simp only [ho, hwant, if_true]
          exact .inl (g2 K Q hK)
        · rename_i hwn
          have hwant := wanted_ok hF ht hg hwn
          cases hv
          refine ⟨Stat.refl _, fun K Q hK => ?_⟩
          unfold wpOp
          simp only [ho, hwant, Bool.false_eq_true, if_false]
          exact skip K hK
        · cases hv
      · simp only [AIns.step, AIns.wanted, wantedG, AOp.ev, EOp.ev] at hv; cases hv

/-- Operations, one behind the other. -/
theorem ops_ok (hc : CallOk P call) {q : Nat → Bool} {ops : Array Oper} {base : Nat} : ∀ (l : List Nat) (F F' : Fr) (s s' : AS) (ρ : Env) (a : Act) (w : World), l.Nodup → OkW N ρ s w → FrOk ρ F a → (∀ i ∈ l, base + i < s.n ∧ ρ.loc (base + i) = none) → s.lim ≤ base →
    runOps call base (l.map (cI P q ops)) F s = some (F', s') →
    Stat s s' ∧ ∀ (Q : Exit → Act → World → Prop), (∀ a' w' ρ', Left N ρ w F' s' (fun id => (∃ i ∈ l, id = base + i) ∨ s.n ≤ id) a' w' ρ' → Q .normal a' w') → wpOps P ops Q l a w
  | [], F, F', s, s', ρ, a, w, _, hw, hF, _, _, h => by
    simp only [List.map_nil, runOps, Option.some.injEq, Prod.mk.injEq] at h
    obtain ⟨rfl, rfl⟩ := h
    exact ⟨Stat.refl _, fun Q hQ => hQ _ _ ρ (Left.refl hF hw)⟩
  | i :: l, F, F', s, s', ρ, a, w, hnd, hw, hF, hi, hlim, h => by
    simp only [List.map_cons, runOps] at h
    split at h
    case h_2 => cases h
    rename_i F1 s1 h1
    rw [List.nodup_cons] at hnd
    have hi0 := hi i (by simp)
    obtain ⟨g1, g2⟩ := step_ok hc hw hF hi0.1 hi0.2 (by omega) h1
    have g3 := runOps_stat hc h (by rw [g1.lim]; exact hlim) (by rw [g1.lim]; have := g1.n; omega)
    refine ⟨g1.trans g3, fun Q hQ => ?_⟩
    rw [wpOps_cons]
    refine g2 _ Q fun a' w' ρ' hl => ?_
    have hn := g1.n
    refine (ops_ok hc l F1 F' s1 s' ρ' a' w' hnd.2 hl.ok hl.fr (fun j hj => ?_) (by rw [g1.lim]; exact hlim) h).2 Q fun a'' w'' ρ'' hl' => hQ _ _ ρ'' (hl.trans hl' (fun id hid => ?_) (fun id hid => ?_))
    · have := hi j (by simp [hj])
      have hne : j ≠ i := fun e => hnd.1 (e ▸ hj)
      refine ⟨by omega, ?_⟩
      rw [hl.keep _ (by omega)]; exact this.2
    · rcases hid with q | q
      · exact .inl ⟨i, by simp, q⟩
      · exact .inr q
    · rcases hid with ⟨j, hj, q⟩ | q
      · exact .inl ⟨j, by simp [hj], q⟩
      · exact .inr (by omega)
end
end
end Go.Proofs.Ytgcciohenncplaa.Ai
