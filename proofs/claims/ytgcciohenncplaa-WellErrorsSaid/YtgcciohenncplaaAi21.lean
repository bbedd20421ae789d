/- A row whose order is open: whatever order is drawn. -/
import Derived.Test.YtgcciohenncplaaAi20
namespace Go.Proofs.Ytgcciohenncplaa.Ai
noncomputable section
open Go.RowKit (Below)

def Row.run (R : Row) (call : Nat → List AV → M AV) (base : Nat) : (Nat → Bool) → List Nat → Fr → M Fr
  | _, [], F => fun s => some (F, s)
  | D, j :: l, F => fun s => match R.step call base D j F s with
    | some (F', s') => R.run call base (addD D j) l F' s'
    | none => none

theorem addD_comm (D : Nat → Bool) (i j : Nat) : addD (addD D i) j = addD (addD D j) i := by
  funext k; unfold addD
  cases (k == i) <;> cases (k == j) <;> rfl
theorem addD_self (D : Nat → Bool) (i : Nat) : addD D i i = true := by simp [addD]
theorem addD_ne {D : Nat → Bool} {i j : Nat} (h : i ≠ j) : addD D j i = D i := by simp [addD, h]
theorem addD_mono {D : Nat → Bool} {i j : Nat} (h : D i = true) : addD D j i = true := by simp [addD, h]

/-- What comes ahead of what has been carried out has been carried out. -/
def Closed (R : Row) (D : Nat → Bool) : Prop := ∀ i, D i = true → ∀ z, (R.pc i).testBit z = true → D z = true
theorem Closed.add {R : Row} {D : Nat → Bool} (h : Closed R D) {j : Nat} (hj : ∀ z, (R.pc j).testBit z = true → D z = true) : Closed R (addD D j) := by
  intro i hi z hz
  by_cases e : i = j
  · subst e; exact addD_mono (hj z hz)
  · rw [addD_ne e] at hi; exact addD_mono (h i hi z hz)

/-- The order that was taken is one that may be, and what is not bound may change places. -/
def Ord (R : Row) (x y : Nat) : Prop := (R.pc x).testBit y = false ∧ ((R.pc y).testBit x = true ∨ Pair R x y)

theorem front {R : Row} {call : Nat → List AV → M AV} {base : Nat} (hs : Sound R) {j : Nat} {l2 : List Nat} {T : Fr × AS} : ∀ (l1 : List Nat) (D : Nat → Bool) (F : Fr) (s : AS), Closed R D → (∀ x ∈ l1, D x = false ∧ Pair R x j) → (∀ x ∈ l1, ∀ z, (R.pc x).testBit z = true → D z = true ∨ z ∈ l1) → l1.Pairwise (fun x y => (R.pc x).testBit y = false) → l1.Nodup → (∀ x, (R.pc x).testBit x = false) →
    D j = false → (∀ z, (R.pc j).testBit z = true → D z = true) → R.run call base D (l1 ++ j :: l2) F s = some T →
    ∃ F' s', R.step call base D j F s = some (F', s') ∧ R.run call base (addD D j) (l1 ++ l2) F' s' = some T
  | [], D, F, s, _, _, _, _, _, _, _, _, h => by
    simp only [List.nil_append, Row.run] at h
    split at h
    case h_2 => cases h
    rename_i F' s' h1
    exact ⟨F', s', h1, h⟩
  | x :: r, D, F, s, hI, hp, hpc, hpw, hnd, hself, hj, hjp, h => by
    simp only [List.cons_append, Row.run] at h
    split at h
    case h_2 => cases h
    rename_i F1 s1 h1
    rw [List.pairwise_cons] at hpw
    rw [List.nodup_cons] at hnd
    have hx := hp x (by simp)
    have hxp : ∀ z, (R.pc x).testBit z = true → D z = true := by
      intro z hz
      rcases hpc x (by simp) z hz with q | q
      · exact q
      · rcases List.mem_cons.1 q with e | e
        · rw [e, hself] at hz; cases hz
        · rw [hpw.1 z e] at hz; cases hz
    obtain ⟨F2, s2, g1, g2⟩ := front hs r (addD D x) F1 s1 (hI.add hxp)
      (fun y hy => ⟨by rw [addD_ne (show y ≠ x from fun e => hnd.1 (e ▸ hy))]; exact (hp y (by simp [hy])).1, (hp y (by simp [hy])).2⟩)
      (fun y hy z hz => by
        rcases hpc y (by simp [hy]) z hz with q | q
        · exact .inl (addD_mono q)
        · rcases List.mem_cons.1 q with e | e
          · exact .inl (by rw [e]; exact addD_self ..)
          · exact .inr e) hpw.2 hnd.2 hself
      (by rw [addD_ne (fun e => hx.2.ne e.symm)]; exact hj) (fun z hz => addD_mono (hjp z hz)) h
    obtain ⟨F1', s1', k1, k2⟩ := swap hs hI hx.1 hj hx.2 h1 g1
    refine ⟨F1', s1', k1, ?_⟩
    simp only [List.cons_append, Row.run, k2]
    rw [addD_comm]; exact g2

/-- The operations that one waits for. -/
def dpre (ops : Array Oper) (j : Nat) : List Nat := match ops[j]? with
  | some o => (o.after.toList.filter (Region.binds .any)).map (·.on)
  | none => []

/-- All that is asked of a row. -/
structure Fit (P : Program) (q : Nat → Bool) (ops : Array Oper) (R : Row) : Prop where
  ins : ∀ j, R.ins j = cI P q ops j
  sound : Sound R
  self : ∀ x, (R.pc x).testBit x = false
  lt : ∀ x, x < ops.size → ∀ z, (R.pc x).testBit z = true → z < ops.size
  pre : ∀ j, j < ops.size → ∀ d ∈ dpre ops j, d < ops.size ∧ (R.pc j).testBit d = true
  pc : ∀ j, j < ops.size → ∀ z, (R.pc j).testBit z = true → z ∈ dpre ops j ∨ ∃ d ∈ dpre ops j, (R.pc d).testBit z = true

theorem listed_set {listed : Array Bool} {D : Nat → Bool} {n : Nat} (hl : listed.size = n) (hD : ∀ i, i < n → listed.getD i true = D i) {j : Nat} (hj : j < n) : (listed.setIfInBounds j true).size = n ∧ ∀ i, i < n → (listed.setIfInBounds j true).getD i true = addD D j i := by
  refine ⟨by simp [hl], fun i hi => ?_⟩
  by_cases e : i = j
  · subst e
    rw [addD_self]
    simp [hl, hj]
  · rw [addD_ne e, getD_set_ne true (Ne.symm e)]; exact hD i hi

theorem any_ok {P : Program} {call : Nat → List AV → M AV} (hc : CallOk P call) {q : Nat → Bool} {ops : Array Oper} {R : Row} (hR : Fit P q ops R) {base N : Nat} {Q : Exit → Act → World → Prop} {F' : Fr} {s' : AS} :
    ∀ (m : Nat) (l : List Nat) (D : Nat → Bool) (listed : Array Bool) (F : Fr) (s : AS) (ρ : Env) (a : Act) (w : World), l.length = m → listed.size = ops.size → (∀ i, i < ops.size → listed.getD i true = D i) → (∀ i, i < ops.size → (D i = false ↔ i ∈ l)) → (∀ i, D i = true → i < ops.size) → (∀ i ∈ l, i < ops.size) → l.Nodup → l.Pairwise (Ord R) → Closed R D →
      OkW N ρ s w → FrOk ρ F a → (∀ i ∈ l, base + i < s.n ∧ ρ.loc (base + i) = none) → s.lim ≤ base → R.run call base D l F s = some (F', s') →
      (∀ a' w' ρ', Left N ρ w F' s' (fun id => (∃ i ∈ l, id = base + i) ∨ s.n ≤ id) a' w' ρ' → Q .normal a' w') → wpAny P .any ops Q m listed a w
  | 0, l, D, listed, F, s, ρ, a, w, hm, hl, hD, hmem, _, _, _, _, _, hw, hF, _, _, h, hQ => by
    have : l = [] := List.eq_nil_of_length_eq_zero hm
    subst this
    simp only [Row.run, Option.some.injEq, Prod.mk.injEq] at h
    obtain ⟨rfl, rfl⟩ := h
    refine ⟨?_, hQ _ _ ρ (Left.refl hF hw)⟩
    cases hr : Region.ready .any ops listed with
    | nil => rfl
    | cons x r =>
      have hx : x ∈ Region.ready .any ops listed := by rw [hr]; simp
      obtain ⟨h0, o, ho, _⟩ := mem_ready.1 hx
      have hlt : x < ops.size := (Array.getElem?_eq_some_iff.1 ho).1
      rw [hD x hlt] at h0
      exact absurd ((hmem x hlt).1 h0) (by simp)
  | m + 1, l, D, listed, F, s, ρ, a, w, hm, hl, hD, hmem, hDlt, hlt, hnd, hpw, hI, hw, hF, hfree, hlim, h, hQ => by
    have hdone : ∀ d, listed.getD d false = true → d < ops.size ∧ D d = true := by
      intro d hd
      have h1 : d < listed.size := by
        rcases Nat.lt_or_ge d listed.size with q' | q'
        · exact q'
        · simp [Array.getElem?_eq_none q'] at hd
      refine ⟨by omega, ?_⟩
      rw [← hD d (by omega)]
      simpa [h1] using hd
    have hdone' : ∀ d, d < ops.size → D d = true → listed.getD d false = true := by
      intro d hd hDd
      have h1 : d < listed.size := by omega
      have := hD d hd
      rw [hDd] at this
      simpa [h1] using this
    refine ⟨fun hr => ?_, fun j hj => ?_⟩
    · -- the head may come up
      cases l with
      | nil => simp at hm
      | cons j0 r =>
        exfalso
        have hj0 := hlt j0 (by simp)
        have hin : j0 ∈ Region.ready .any ops listed := by
          refine mem_ready.2 ⟨by rw [hD j0 hj0]; exact (hmem j0 hj0).2 (by simp), ops[j0], Array.getElem?_eq_getElem hj0, fun e he hb => ?_⟩
          have hd : e.on ∈ dpre ops j0 := by
            unfold dpre
            rw [Array.getElem?_eq_getElem hj0]
            exact List.mem_map.2 ⟨e, List.mem_filter.2 ⟨by simpa using he, hb⟩, rfl⟩
          obtain ⟨h1, h2⟩ := hR.pre j0 hj0 _ hd
          refine hdone' _ h1 ?_
          cases hDe : D e.on with
          | true => rfl
          | false =>
            have hm' := (hmem _ h1).1 hDe
            rcases List.mem_cons.1 hm' with e' | e'
            · rw [e', hR.self] at h2; cases h2
            · have := (List.rel_of_pairwise_cons hpw e').1
              rw [this] at h2; cases h2
        rw [hr] at hin; cases hin
    · obtain ⟨h0, o, ho, hall⟩ := mem_ready.1 hj
      have hjlt : j < ops.size := (Array.getElem?_eq_some_iff.1 ho).1
      rw [hD j hjlt] at h0
      have hjl := (hmem j hjlt).1 h0
      obtain ⟨l1, l2, rfl⟩ := List.append_of_mem hjl
      have hpcj : ∀ z, (R.pc j).testBit z = true → D z = true := by
        have hdir : ∀ d ∈ dpre ops j, D d = true := by
          intro d hd
          unfold dpre at hd
          rw [ho] at hd
          obtain ⟨e, he, rfl⟩ := List.mem_map.1 hd
          obtain ⟨he1, he2⟩ := List.mem_filter.1 he
          exact (hdone _ (hall e (by simpa using he1) he2)).2
        intro z hz
        rcases hR.pc j hjlt z hz with q' | ⟨d, hd, q'⟩
        · exact hdir z q'
        · exact hI d (hdir d hd) z q'
      have hDl : ∀ x ∈ l1 ++ j :: l2, D x = false := fun x hx => (hmem x (hlt x hx)).2 hx
      rw [List.pairwise_append] at hpw
      obtain ⟨pw1, pw2, pw3⟩ := hpw
      rw [List.nodup_append] at hnd
      obtain ⟨nd1, nd2, nd3⟩ := hnd
      rw [List.nodup_cons] at nd2
      have hpairs : ∀ x ∈ l1, D x = false ∧ Pair R x j := by
        intro x hx
        refine ⟨hDl x (by simp [hx]), ?_⟩
        rcases (pw3 x hx j (by simp)).2 with q' | q'
        · have := hpcj x q'
          rw [hDl x (by simp [hx])] at this; cases this
        · exact q'
      have hpcl : ∀ x ∈ l1, ∀ z, (R.pc x).testBit z = true → D z = true ∨ z ∈ l1 := by
        intro x hx z hz
        have hxlt := hlt x (by simp [hx])
        -- all that comes ahead of x is carried out or stands ahead of it
        have zlt : z < ops.size := hR.lt x hxlt z hz
        cases hDz : D z with
        | true => exact .inl rfl
        | false =>
          have hzl := (hmem z zlt).1 hDz
          rcases List.mem_append.1 hzl with q' | q'
          · exact .inr q'
          · have := (pw3 x hx z q').1
            rw [this] at hz; cases hz
      obtain ⟨F1, s1, g1, g2⟩ := front hR.sound l1 D F s hI hpairs hpcl (pw1.imp fun h => h.1) nd1 hR.self h0 hpcj h
      have g1' : (cI P q ops j).step call base F s = some (F1, s1) := by
        unfold Row.step at g1
        rw [step_iff] at g1 ⊢
        rw [← hR.ins j]
        rcases g1 with ⟨a1, a2, a3⟩ | ⟨a1, v, a2, a3, a4⟩
        · exact .inl ⟨a1, a2, a3⟩
        · refine .inr ⟨a1, v, a2, ?_, a4⟩
          have hck : (R.ins j).ck = [] := by
            rw [hR.ins j]
            unfold cI
            split
            · rfl
            · split
              · rfl
              · split <;> rfl
          rw [hck]; rfl
      have hfj := hfree j (by simp)
      obtain ⟨t1, t2⟩ := step_ok hc hw hF hfj.1 hfj.2 (by omega) g1'
      refine t2 _ Q fun a1 w1 ρ1 hl1 => ?_
      have hn := t1.n
      have hset := listed_set hl hD hjlt
      have hsub : ∀ x, x ∈ l1 ++ l2 → x ∈ l1 ++ j :: l2 := fun x hx => by
        rcases List.mem_append.1 hx with q' | q'
        · simp [q']
        · simp [q']
      have hxj : ∀ x ∈ l1 ++ l2, x ≠ j := by
        intro x hx e
        subst e
        rcases List.mem_append.1 hx with q' | q'
        · exact nd3 x q' x (by simp) rfl
        · exact nd2.1 q'
      refine any_ok hc hR m (l1 ++ l2) (addD D j) _ F1 s1 ρ1 a1 w1 (by simp at hm ⊢; omega) hset.1 hset.2 (fun i hi => ?_) (fun i hi => ?_) (fun i hi => hlt i (hsub i hi)) ?_ ?_ (hI.add hpcj) hl1.ok hl1.fr (fun i hi => ?_) (by rw [t1.lim]; exact hlim) g2 (fun a2 w2 ρ2 hl2 => hQ _ _ ρ2 (hl1.trans hl2 (fun id hid => ?_) (fun id hid => ?_)))
      · by_cases e : i = j
        · subst e
          rw [addD_self]
          exact ⟨fun q' => (by cases q'), fun q' => absurd rfl (hxj i q')⟩
        · rw [addD_ne e, hmem i hi]
          constructor
          · intro q'
            rcases List.mem_append.1 q' with q'' | q''
            · simp [q'']
            · rcases List.mem_cons.1 q'' with r' | r'
              · exact absurd r' e
              · simp [r']
          · exact hsub i
      · by_cases e : i = j
        · subst e; exact hjlt
        · rw [addD_ne e] at hi; exact hDlt i hi
      · rw [List.nodup_append]
        exact ⟨nd1, nd2.2, fun x hx y hy => nd3 x hx y (by simp [hy])⟩
      · rw [List.pairwise_append]
        exact ⟨pw1, (List.pairwise_cons.1 pw2).2, fun x hx y hy => pw3 x hx y (by simp [hy])⟩
      · have := hfree i (hsub i hi)
        have hne := hxj i hi
        refine ⟨by omega, ?_⟩
        rw [hl1.keep _ (by omega)]; exact this.2
      · rcases hid with q' | q'
        · exact .inl ⟨j, by simp, q'⟩
        · exact .inr q'
      · rcases hid with ⟨i, hi, q'⟩ | q'
        · exact .inl ⟨i, hsub i hi, q'⟩
        · exact .inr (by omega)
end
end Go.Proofs.Ytgcciohenncplaa.Ai
