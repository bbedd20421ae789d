/- A row whose order is open: what is to be looked at, as a test. -/
import Derived.Test.YtgcciohenncplaaAi21
namespace Go.Proofs.Ytgcciohenncplaa.Ai
noncomputable section
open Go.RowKit (Below)

/-- What is told of a row: the order that is taken, what comes ahead of each (as bits), the readings that each must leave. -/
structure Note where
  perm : List Nat
  pc : List Nat
  rl : List (List Nat)

def mkRow (P : Program) (q : Nat → Bool) (ops : Array Oper) (N : Note) : Row := { ins := cI P q ops, pc := fun j => N.pc.getD j 0, rl := fun j => N.rl.getD j [] }

def kindB (k l : Nat) (c : Bool) : Bool :=
  Nat.beq k 0 || (Nat.beq l 0 || ((Nat.beq k 1 && Nat.beq l 1) || ((Nat.beq k 1 && Nat.beq l 2) || ((Nat.beq k 2 && Nat.beq l 2) || ((Nat.beq k 1 && Nat.beq l 3) || ((Nat.beq k 3 && Nat.beq l 1) || (Nat.beq k 1 && (Nat.beq l 4 && c))))))))
def pairB (R : Row) (x y : Nat) : Bool :=
  let i := R.ins x
  let j := R.ins y
  !(x == y) && (noLook i.dst j && (noLook j.dst i && ((match i.dst with | some t => !(j.dst == some t) | none => true) &&
    (kindB i.op.kind j.op.kind ((R.rl y).contains x) &&
    ((R.rl y).all (fun k => (R.pc k).testBit x || noLook i.dst (R.ins k)) && (R.rl x).all (fun k => (R.pc k).testBit y || noLook j.dst (R.ins k)))))))
def ordB (R : Row) (x y : Nat) : Bool := !(R.pc x).testBit y && ((R.pc y).testBit x || pairB R x y)
def pwB (f : Nat → Nat → Bool) : List Nat → Bool
  | [] => true
  | x :: l => l.all (f x) && pwB f l
def rlB (rl : Nat → List Nat) : List Nat → List Nat → Bool
  | _, [] => true
  | seen, j :: l => (rl j).all (fun i => seen.contains i) && rlB rl (j :: seen) l
def nodupB : List Nat → Bool
  | [] => true
  | x :: l => !(l.contains x) && nodupB l

def fitB (ops : Array Oper) (N : Note) (R : Row) : Bool :=
  let n := ops.size
  Nat.beq N.pc.length n && (Nat.beq N.rl.length n && (Nat.beq N.perm.length n && (nodupB N.perm && (N.perm.all (fun i => Nat.blt i n) &&
  ((List.range n).all (fun j =>
    Nat.blt (R.pc j) (2 ^ n) && (!(R.pc j).testBit j && ((dpre ops j).all (fun d => Nat.blt d n && (R.pc j).testBit d) &&
    ((List.range n).all (fun z => !(R.pc j).testBit z || ((dpre ops j).contains z || (dpre ops j).any (fun d => (R.pc d).testBit z))) &&
    ((R.rl j).isEmpty || Nat.beq (R.ins j).op.kind 4) && (R.rl j).all (fun i => Nat.beq (R.ins i).op.kind 1 && noLook (R.ins i).dst (R.ins i)))))) &&
  (pwB (ordB R) N.perm && (rlB R.rl [] N.perm && (List.range n).all (fun i => N.perm.contains i))))))))

theorem pairB_ok {R : Row} {x y : Nat} (h : pairB R x y = true) : Pair R x y := by
  unfold pairB at h
  simp only [Bool.and_eq_true, Bool.not_eq_true', beq_eq_false_iff_ne] at h
  obtain ⟨h1, h2, h3, h4, h5, h6, h7⟩ := h
  refine ⟨h1, h2, h3, fun i hi => ?_, ?_, fun k hk => ?_, fun k hk => ?_⟩
  · rw [hi] at h4
    simp only [Bool.not_eq_true', beq_eq_false_iff_ne] at h4
    exact h4
  · unfold kindB at h5
    simp only [Bool.or_eq_true, Bool.and_eq_true, Nat.beq_eq] at h5
    rcases h5 with k | k | k | k | k | k | k | ⟨k, k', k''⟩
    · exact .inl k
    · exact .inr (.inl k)
    · exact .inr (.inr (.inl k))
    · exact .inr (.inr (.inr (.inl k)))
    · exact .inr (.inr (.inr (.inr (.inl k))))
    · exact .inr (.inr (.inr (.inr (.inr (.inl k)))))
    · exact .inr (.inr (.inr (.inr (.inr (.inr (.inl k))))))
    · exact .inr (.inr (.inr (.inr (.inr (.inr (.inr ⟨k, k', by simpa using k''⟩))))))
  · have := List.all_eq_true.1 h6 k hk
    simpa using this
  · have := List.all_eq_true.1 h7 k hk
    simpa using this
theorem pwB_ok {f : Nat → Nat → Bool} {r : Nat → Nat → Prop} (hf : ∀ x y, f x y = true → r x y) : ∀ {l : List Nat}, pwB f l = true → l.Pairwise r
  | [], _ => .nil
  | x :: l, h => by
    simp only [pwB, Bool.and_eq_true] at h
    exact List.pairwise_cons.2 ⟨fun y hy => hf x y (List.all_eq_true.1 h.1 y hy), pwB_ok hf h.2⟩
theorem ordB_ok {R : Row} {x y : Nat} (h : ordB R x y = true) : Ord R x y := by
  simp only [ordB, Bool.and_eq_true, Bool.or_eq_true, Bool.not_eq_true'] at h
  exact ⟨h.1, h.2.imp id pairB_ok⟩
theorem nodupB_ok : ∀ {l : List Nat}, nodupB l = true → l.Nodup
  | [], _ => .nil
  | x :: l, h => by
    simp only [nodupB, Bool.and_eq_true, Bool.not_eq_true'] at h
    exact List.nodup_cons.2 ⟨by simpa using h.1, nodupB_ok h.2⟩

theorem fitB_ok {P : Program} {q : Nat → Bool} {ops : Array Oper} {N : Note} (h : fitB ops N (mkRow P q ops N) = true) :
    Fit P q ops (mkRow P q ops N) ∧ N.perm.length = ops.size ∧ N.perm.Nodup ∧ (∀ i ∈ N.perm, i < ops.size) ∧ N.perm.Pairwise (Ord (mkRow P q ops N)) ∧ rlB (mkRow P q ops N).rl [] N.perm = true ∧ (∀ i, i < ops.size → i ∈ N.perm) := by
  unfold fitB at h
  simp only [Bool.and_eq_true] at h
  obtain ⟨h1, h2, h3, h4, h5, h6, h7, h8, h9⟩ := h
  have bl : ∀ {a b : Nat}, Nat.blt a b = true → a < b := fun h => Nat.le_of_ble_eq_true h
  have e1 := Nat.eq_of_beq_eq_true h1; have e2 := Nat.eq_of_beq_eq_true h2; have e3 := Nat.eq_of_beq_eq_true h3
  have big1 : ∀ j, ops.size ≤ j → (mkRow P q ops N).pc j = 0 := by
    intro j hj
    show N.pc.getD j 0 = 0
    rw [List.getD_eq_getElem?_getD, List.getElem?_eq_none (by omega)]; rfl
  have big2 : ∀ j, ops.size ≤ j → (mkRow P q ops N).rl j = [] := by
    intro j hj
    show N.rl.getD j [] = []
    rw [List.getD_eq_getElem?_getD, List.getElem?_eq_none (by omega)]; rfl
  have each : ∀ j, j < ops.size → _ := fun j hj => List.all_eq_true.1 h6 j (List.mem_range.2 hj)
  simp only [Bool.and_eq_true, Bool.or_eq_true, Bool.not_eq_true'] at each
  refine ⟨⟨fun j => rfl, ⟨fun j => ?_, fun j hj => ?_, fun j i hi => ?_, fun j i hi => ?_⟩, fun x => ?_, fun x hx z hz => ?_, fun j hj d hd => ?_, fun j hj z hz => ?_⟩, e3, nodupB_ok h4, fun i hi => ?_, pwB_ok (fun x y => ordB_ok) h7, h8, fun i hi => by simpa using List.all_eq_true.1 h9 i (List.mem_range.2 hi)⟩
  · show (cI P q ops j).ix = j
    unfold cI
    split
    · rfl
    · split
      · rfl
      · split <;> rfl
  · rcases Nat.lt_or_ge j ops.size with a | a
    · obtain ⟨_, _, _, ⟨_, k⟩, _⟩ := each j a
      rcases k with k | k
      · exact absurd (by simpa using k) hj
      · exact Nat.eq_of_beq_eq_true k
    · exact absurd (big2 j a) hj
  · rcases Nat.lt_or_ge j ops.size with a | a
    · obtain ⟨_, _, _, _, k⟩ := each j a
      have := List.all_eq_true.1 k i hi
      simp only [Bool.and_eq_true] at this
      exact Nat.eq_of_beq_eq_true this.1
    · rw [big2 j a] at hi; cases hi
  · rcases Nat.lt_or_ge j ops.size with a | a
    · obtain ⟨_, _, _, _, k⟩ := each j a
      have := List.all_eq_true.1 k i hi
      simp only [Bool.and_eq_true] at this
      exact this.2
    · rw [big2 j a] at hi; cases hi
  · rcases Nat.lt_or_ge x ops.size with a | a
    · exact (each x a).2.1
    · rw [big1 x a]; simp
  · obtain ⟨k, _⟩ := each x hx
    rcases Nat.lt_or_ge z ops.size with a | a
    · exact a
    · have k' : (mkRow P q ops N).pc x < 2 ^ ops.size := bl k
      have : (mkRow P q ops N).pc x < 2 ^ z := Nat.lt_of_lt_of_le k' (Nat.pow_le_pow_right (by decide) a)
      rw [Nat.testBit_lt_two_pow this] at hz; cases hz
  · obtain ⟨_, _, k, _⟩ := each j hj
    have := List.all_eq_true.1 k d hd
    simp only [Bool.and_eq_true] at this
    exact ⟨bl this.1, this.2⟩
  · obtain ⟨_, _, _, ⟨k, _⟩, _⟩ := each j hj
    have zlt : z < ops.size := by
      obtain ⟨k', _⟩ := each j hj
      rcases Nat.lt_or_ge z ops.size with a | a
      · exact a
      · have k'' : (mkRow P q ops N).pc j < 2 ^ ops.size := bl k'
        have : (mkRow P q ops N).pc j < 2 ^ z := Nat.lt_of_lt_of_le k'' (Nat.pow_le_pow_right (by decide) a)
        rw [Nat.testBit_lt_two_pow this] at hz; cases hz
    have := List.all_eq_true.1 k z (List.mem_range.2 zlt)
    simp only [Bool.or_eq_true, Bool.not_eq_true', List.any_eq_true] at this
    rcases this with c | c | c
    · rw [hz] at c; cases c
    · exact .inl (by simpa using c)
    · exact .inr c
  · have := List.all_eq_true.1 h5 i hi
    exact bl this

/-- The order that is taken, with its checks. -/
def Row.out (R : Row) (l : List Nat) : List AIns := l.map fun j => { R.ins j with ck := (R.rl j).map fun i => (R.ins i).rop }
theorem out_run {R : Row} {call : Nat → List AV → M AV} {base : Nat} : ∀ (l seen : List Nat) (D : Nat → Bool) (F : Fr) (s : AS) (T : Fr × AS), (∀ i ∈ seen, D i = true) → rlB R.rl seen l = true → runOps call base (R.out l) F s = some T → R.run call base D l F s = some T
  | [], _, _, F, s, T, _, _, h => h
  | j :: l, seen, D, F, s, T, hD, hr, h => by
    simp only [rlB, Bool.and_eq_true] at hr
    have hck : (R.rl j).filter D = R.rl j := by
      rw [List.filter_eq_self]
      intro i hi
      have := List.all_eq_true.1 hr.1 i hi
      exact hD i (by simpa using this)
    simp only [Row.out, List.map_cons, runOps] at h
    simp only [Row.run, Row.step, Row.at_, hck]
    split at h
    case h_2 => cases h
    rename_i F1 s1 h1
    rw [h1]
    refine out_run l (j :: seen) (addD D j) F1 s1 T (fun i hi => ?_) hr.2 h
    rcases List.mem_cons.1 hi with e | e
    · subst e; exact addD_self ..
    · exact addD_mono (hD i e)

theorem draw_ok {P : Program} (hm : P.follows .mixedOrders = true) {call : Nat → List AV → M AV} (hc : CallOk P call) {q : Nat → Bool} {ops : Array Oper} {N : Note} (hfit : fitB ops N (mkRow P q ops N) = true) {n0 : Nat} {F F' : Fr} {s s' : AS} {ρ : Env} {a : Act} {w : World} (hw : OkW n0 ρ s w) (hF : FrOk ρ F a) {base : Nat} (hb : base + ops.size ≤ s.n) (hfree : ∀ i, i < ops.size → ρ.loc (base + i) = none) (hlim : s.lim ≤ base)
    (h : runOps call base ((mkRow P q ops N).out N.perm) F s = some (F', s')) {Q : Exit → Act → World → Prop} (hQ : ∀ a' w' ρ', Left n0 ρ w F' s' (fun id => base ≤ id) a' w' ρ' → Q .normal a' w') {id : Nat} : (Code.region id ops true).wp P Q a w := by
  obtain ⟨hR, h1, h2, h3, h4, h5, hmem⟩ := fitB_ok hfit
  have hrun := out_run N.perm [] (fun _ => false) F s (F', s') (fun i hi => by cases hi) h5 h
  refine wp_region_any hm ?_
  have hw' : OkW n0 ρ s { w with drawn := w.drawn + 1 } := hw.heap rfl
  have := any_ok hc hR (Q := Q) (N := n0) ops.size N.perm (fun _ => false) (Array.replicate ops.size false) F s ρ a { w with drawn := w.drawn + 1 } h1 (by simp) (fun i hi => by simp [hi]) (fun i hi => ⟨fun _ => hmem i hi, fun _ => rfl⟩) (fun i hi => by cases hi) h3 h2 h4 (fun i hi => by cases hi) hw' hF (fun i hi => ⟨by have := h3 i hi; omega, hfree i (h3 i hi)⟩) hlim hrun
    (fun a' w' ρ' hl => hQ a' w' ρ' ⟨hl.ext, hl.fr, hl.ok, ⟨hl.bel.os, hl.bel.tape, hl.bel.output, hl.bel.size, hl.bel.block⟩, fun id hid => hl.keep id (fun q' => hid (by rcases q' with ⟨i, _, e⟩ | e; (show base ≤ id; omega); (show base ≤ id; omega)))⟩)
  exact this
end
end Go.Proofs.Ytgcciohenncplaa.Ai
