/- Maps: a key found, a map read, a map written. -/
import Derived.Test.YtgcciohenncplaaAi16
import Derived.WideKeyRuns
namespace Go.Proofs.Ytgcciohenncplaa.Ai
noncomputable section
open Go.RowKit (Below)

/-- What is compared of a key: nothing told of a text's; of a struct's its texts (true) and whole numbers (false). -/
def keyT (P : Program) (t : TypeId) : Option (List Bool) :=
  match P.underlying t with
  | some .string => some []
  | some (.struct _) => match flatEq P t with
    | some (k :: ks) => some (k :: ks)
    | _ => none
  | _ => none
theorem keyT_ok {P : Program} {t : TypeId} {ks : List Bool} (h : keyT P t = some ks) : (P.underlying t = some .string ∧ ks = []) ∨ ((∃ fs, P.underlying t = some (.struct fs)) ∧ flatEq P t = some ks ∧ ∃ k r, ks = k :: r) := by
  unfold keyT at h
  split at h
  · rename_i hu; cases h; exact .inl ⟨hu, rfl⟩
  · rename_i fs hu
    split at h
    · rename_i k r hf; cases h; exact .inr ⟨⟨fs, hu⟩, hf, k, r, rfl⟩
    · cases h
  · cases h
theorem eqkey_str {x y : AV} {b : Bool} (h : eqkey [] x y = some b) : ∃ p q, x = .str p ∧ y = .str q ∧ b = (p == q) := by
  unfold eqkey at h
  split at h
  · cases h; exact ⟨_, _, rfl, rfl, rfl⟩
  · rename_i hq; cases hq
  · cases h
theorem eqkey_agg {k : Bool} {ks : List Bool} {x y : AV} {b : Bool} (h : eqkey (k :: ks) x y = some b) : ∃ p q, x = .agg p ∧ y = .agg q ∧ eqcells (k :: ks) p q = some b := by
  unfold eqkey at h
  split at h
  · rename_i hq; cases hq
  · rename_i hq; cases hq; exact ⟨_, _, rfl, rfl, h⟩
  · cases h
theorem findIx_cons {ks : List Bool} {x : AV} {e : AV × AV} {es : List (AV × AV)} {r : Option Nat} (h : findIx ks x (e :: es) = some r) :
    (eqkey ks x e.1 = some true ∧ r = some 0) ∨ (eqkey ks x e.1 = some false ∧ ∃ r', findIx ks x es = some r' ∧ r = r'.map (· + 1)) := by
  unfold findIx at h
  split at h
  · rename_i h1; cases h; exact .inl ⟨h1, rfl⟩
  · rename_i h1
    split at h
    · rename_i i hi; cases h; exact .inr ⟨h1, some i, hi, rfl⟩
    · rename_i hi; cases h; exact .inr ⟨h1, none, hi, rfl⟩
    · cases h
  · cases h
def mapT (P : Program) (t : TypeId) : Option (TypeId × List Bool × TypeId) :=
  match P.underlying t with
  | some (.map k e) => match keyT P k with
    | some ks => some (k, ks, e)
    | none => none
  | _ => none
def zeroV (P : Program) (t : TypeId) : Option AV :=
  match P.info? t with
  | some i => match i.zero with
    | some z => cAV z
    | none => none
  | none => none
theorem mapT_ok {P : Program} {t k e : TypeId} {ks : List Bool} (h : mapT P t = some (k, ks, e)) : P.underlying t = some (.map k e) ∧ keyT P k = some ks := by
  unfold mapT at h
  split at h
  case h_2 => cases h
  rename_i k' e' hu
  split at h
  case h_2 => cases h
  rename_i ks' hk
  cases h
  exact ⟨hu, hk⟩

theorem RelL.uncons {ρ : Env} {x : AV} {cs : List AV} {vs : List Value} (h : RelL ρ (x :: cs) vs) : ∃ V us, vs = V :: us ∧ Rel ρ x V ∧ RelL ρ cs us := by
  match vs, h with
  | [], h => have := h.len; simp at this
  | V :: us, h => exact ⟨V, us, rfl, h.at_ 0 x rfl, by have := h.len; simpa using this, fun j y hj => h.at_ (j + 1) y hj⟩

theorem sameStr (n : Nat) (s u : ByteArray) (h : s.data.toList = u.data.toList) : Instr.sameBits n (.string s) (.string u) = true := by
  have : s = u := ByteArray.ext (by rw [← Array.toList_inj]; exact h)
  subst this
  unfold Instr.sameBits
  exact (Go.MapKept.bytes_beq s s).2 rfl

theorem same_cells {ρ : Env} (n : Nat) : ∀ (ks : List Bool) (xs ys : List AV) (vs us : List Value), eqcells ks xs ys = some true → RelL ρ xs vs → RelL ρ ys us →
    vs.length = us.length ∧ (us.zip vs).all (fun p => Instr.sameBits n p.1 p.2) = true
  | [], [], [], vs, us, _, hx, hy => by
    have h1 := hx.len; have h2 := hy.len
    simp at h1 h2
    subst h1; subst h2
    exact ⟨rfl, rfl⟩
  | true :: ks, .str a :: xs, .str b :: ys, vs, us, h, hx, hy => by
    unfold eqcells at h
    split at h
    case isFalse => cases h
    rename_i hab
    obtain ⟨V, vs', rfl, hV, hvs⟩ := hx.uncons
    obtain ⟨U, us', rfl, hU, hus⟩ := hy.uncons
    obtain ⟨h1, h2⟩ := same_cells n ks xs ys vs' us' h hvs hus
    obtain ⟨s, rfl, hs⟩ := hV.of_str
    obtain ⟨u, rfl, hu⟩ := hU.of_str
    have e : a = b := by simpa using hab
    refine ⟨by simpa using h1, ?_⟩
    rw [List.zip_cons_cons, List.all_cons, h2, sameStr n u s (by rw [hs, hu, e])]
    rfl
  | false :: ks, .int k a :: xs, .int k' b :: ys, vs, us, h, hx, hy => by
    unfold eqcells at h
    split at h
    case isFalse => cases h
    rename_i hk
    split at h
    case isFalse => cases h
    rename_i hab
    obtain ⟨V, vs', rfl, hV, hvs⟩ := hx.uncons
    obtain ⟨U, us', rfl, hU, hus⟩ := hy.uncons
    obtain ⟨h1, h2⟩ := same_cells n ks xs ys vs' us' h hvs hus
    have hV' := hV.of_int; have hU' := hU.of_int
    subst hV'; subst hU'
    have e : a = b := by simpa using hab
    subst e; subst hk
    refine ⟨by simpa using h1, ?_⟩
    rw [List.zip_cons_cons, List.all_cons, h2]
    unfold Instr.sameBits
    simp

/-- What was found. -/
def Hit (i0 : Nat) (ents : List MapEntry) (K : Value) (r : Option Nat) (R : Option (Nat × Value)) : Prop :=
  match r with
  | none => R = none
  | some i => ∃ E, ents[i]? = some E ∧ R = some (i0 + i, E.val) ∧ Instr.sameBits 10000 E.key K = true
theorem Hit.next {i0 : Nat} {ents : List MapEntry} {K : Value} {r : Option Nat} {R : Option (Nat × Value)} {E0 : MapEntry} (h : Hit (i0 + 1) ents K r R) : Hit i0 (E0 :: ents) K (r.map (· + 1)) R := by
  cases r with
  | none => exact h
  | some i =>
    obtain ⟨E, h1, h2, h3⟩ := h
    exact ⟨E, by simpa using h1, by rw [h2]; show some (i0 + 1 + i, E.val) = some (i0 + (i + 1), E.val); congr 2; omega, h3⟩

/-- Entries against entries. -/
def Ents (ρ : Env) (es : List (AV × AV)) (ents : List MapEntry) : Prop :=
  ents.length = es.length ∧ ∀ (j : Nat) e, es[j]? = some e → ∃ E, ents[j]? = some E ∧ Rel ρ e.1 E.key ∧ Rel ρ e.2 E.val ∧ E.born = j

section
variable {P : Program} {ρ : Env}

/-- Keys against keys. -/
def Keys (ρ : Env) (es : List (AV × AV)) (ents : List MapEntry) : Prop := ents.length = es.length ∧ ∀ (j : Nat) e, es[j]? = some e → ∃ E, ents[j]? = some E ∧ Rel ρ e.1 E.key
theorem Keys.uncons {e : AV × AV} {es : List (AV × AV)} {ents : List MapEntry} (h : Keys ρ (e :: es) ents) : ∃ E ents', ents = E :: ents' ∧ Rel ρ e.1 E.key ∧ Keys ρ es ents' := by
  match ents, h with
  | [], h => have := h.1; simp at this
  | E :: ents', h =>
    obtain ⟨E', hE, hk⟩ := h.2 0 e rfl
    simp only [List.getElem?_cons_zero, Option.some.injEq] at hE
    subst hE
    exact ⟨E, ents', rfl, hk, by have := h.1; simpa using this, fun j e' q => h.2 (j + 1) e' q⟩

theorem find_str {x : AV} {K : Value} (hx : Rel ρ x K) : ∀ (es : List (AV × AV)) (ents : List MapEntry) (i0 : Nat) (r : Option Nat), Keys ρ es ents → findIx [] x es = some r →
    ∃ R, Instr.findNow .string K ents i0 = some R ∧ Hit i0 ents K r R
  | [], ents, i0, r, hl, h => by
    have : ents = [] := List.length_eq_zero_iff.1 hl.1
    subst this
    simp only [findIx, Option.some.injEq] at h
    subst h
    exact ⟨none, rfl, rfl⟩
  | e :: es, ents, i0, r, hl, h => by
    obtain ⟨E0, ents, rfl, hk, hl'⟩ := hl.uncons
    have now : ∀ b, eqkey [] x e.1 = some b → Instr.sameNow .string K E0.key = some b ∧ (b = true → Instr.sameBits 10000 E0.key K = true) := by
      intro b hb
      obtain ⟨p, q, rfl, hq, rfl⟩ := eqkey_str hb
      obtain ⟨s, rfl, hsd⟩ := hx.of_str
      rw [hq] at hk
      obtain ⟨u, hu, hud⟩ := hk.of_str
      rw [hu]
      refine ⟨?_, fun hpq => sameStr _ u s (by rw [hsd, hud]; exact (beq_iff_eq.1 hpq).symm)⟩
      show some (s == u) = _
      congr 1
      rw [Bool.eq_iff_iff]
      rw [Go.MapKept.bytes_beq, beq_iff_eq]
      constructor
      · intro z; subst z; rw [← hsd, ← hud]
      · intro z; exact ByteArray.ext (by rw [← Array.toList_inj, hsd, hud, z])
    rcases findIx_cons h with ⟨h1, rfl⟩ | ⟨h1, r', h2, rfl⟩
    · obtain ⟨n1, n2⟩ := now _ h1
      exact ⟨some (i0, E0.val), by simp [Instr.findNow, n1], E0, rfl, rfl, n2 rfl⟩
    · obtain ⟨n1, _⟩ := now _ h1
      obtain ⟨R, g1, g2⟩ := find_str hx es ents (i0 + 1) r' hl' h2
      exact ⟨R, by simp [Instr.findNow, n1, g1], g2.next⟩

theorem find_agg {kt : TypeId} {k0 : Bool} {ks : List Bool} (hk : flatEq P kt = some (k0 :: ks)) {x : AV} {K : Value} (hx : Rel ρ x K) (w : World) : ∀ (es : List (AV × AV)) (ents : List MapEntry) (i0 : Nat) (r : Option Nat), Keys ρ es ents →
    findIx (k0 :: ks) x es = some r → ∃ R, (Instr.findAsking kt K ents i0).run P w = .ok R w ∧ Hit i0 ents K r R
  | [], ents, i0, r, hl, h => by
    have : ents = [] := List.length_eq_zero_iff.1 hl.1
    subst this
    simp only [findIx, Option.some.injEq] at h
    subst h
    exact ⟨none, by simp [Instr.findAsking], rfl⟩
  | e :: es, ents, i0, r, hl, h => by
    obtain ⟨E0, ents, rfl, hkey, hl'⟩ := hl.uncons
    have now : ∀ b, eqkey (k0 :: ks) x e.1 = some b → (Op.equal kt K E0.key).run P w = .ok b w ∧ (b = true → Instr.sameBits 10000 E0.key K = true) := by
      intro b hb
      obtain ⟨xs, ys, rfl, hy, hc⟩ := eqkey_agg hb
      rw [hy] at hkey
      obtain ⟨vs, rfl, hvs⟩ := hx.of_agg
      obtain ⟨us, hus, hus2⟩ := hkey.of_agg
      have heq := eqs_run hk hc hvs hus2 9998 w
      rw [hus]
      refine ⟨by simp [Op.equal, Op.maxDepth, heq], ?_⟩
      rintro rfl
      obtain ⟨h1, h2⟩ := same_cells 9999 (k0 :: ks) xs ys vs us hc hvs hus2
      show Instr.sameBits (9999 + 1) (.agg us.toArray) (.agg vs.toArray) = true
      unfold Instr.sameBits
      simp only [List.size_toArray, h1, beq_self_eq_true, Bool.true_and]
      exact h2
    rcases findIx_cons h with ⟨h1, rfl⟩ | ⟨h1, r', h2, rfl⟩
    · obtain ⟨n1, n2⟩ := now _ h1
      exact ⟨some (i0, E0.val), by simp [Instr.findAsking, n1], E0, rfl, rfl, n2 rfl⟩
    · obtain ⟨n1, _⟩ := now _ h1
      obtain ⟨R, g1, g2⟩ := find_agg hk hx w es ents (i0 + 1) r' hl' h2
      exact ⟨R, by simp [Instr.findAsking, n1, g1], g2.next⟩

theorem find_key {kt : TypeId} {ks : List Bool} (hk : keyT P kt = some ks) {x : AV} {K : Value} (hx : Rel ρ x K) (w : World) {es : List (AV × AV)} {ents : List MapEntry} {r : Option Nat} (hl : Keys ρ es ents) (h : findIx ks x es = some r) :
    ∃ R, (Instr.findKey kt K ents).run P w = .ok R w ∧ Hit 0 ents K r R := by
  rcases keyT_ok hk with ⟨hu, rfl⟩ | ⟨⟨fs, hu⟩, hf, k0, r0, rfl⟩
  · obtain ⟨R, h1, h2⟩ := find_str hx es ents 0 r hl h
    exact ⟨R, Go.MapKept.run_findKey hu h1, h2⟩
  · obtain ⟨R, h1, h2⟩ := find_agg hf hx w es ents 0 r hl h
    exact ⟨R, by rw [run_findKey_eq w (by rw [hu]) K ents]; exact h1, h2⟩

theorem check_cells {em : Bool} {n : Nat} {cs : Array Value} (w : World) : ∀ (ks : List Bool) (i : Nat) (fs : List Field) (xs : List AV), flatFrom P i fs = some ks → eqcells ks xs xs = some true →
    (∀ (j : Nat) x, xs[j]? = some x → ∃ V, cs[i + j]? = some V ∧ Rel ρ x V) →
    (forIn (m := Sem) fs PUnit.unit fun f (_ : PUnit) =>
      if f.name ≠ "_" then do
        let l ← part f.type cs f.offset
        Instr.checkKey em (n + 1) f.type l
        pure (ForInStep.yield PUnit.unit)
      else pure (ForInStep.yield PUnit.unit)).run P w = .ok PUnit.unit w
  | ks, i, [], xs, _, _, _ => by simp
  | ks, i, f :: fs, xs, hf, he, hx => by
    unfold flatFrom at hf
    split at hf
    case isFalse => cases hf
    rename_i hoff
    obtain ⟨ho, hn⟩ := hoff
    split at hf
    · rename_i k0 ks' hu hr
      cases hf
      match xs, he with
      | .int k a :: xs', he =>
        obtain ⟨V, hV, hVr⟩ := hx 0 _ rfl
        cases hVr
        have ht : isRowT P f.type = some false := by unfold isRowT; rw [hu]
        rw [Nat.add_zero, ← ho] at hV
        have he' : eqcells ks' xs' xs' = some true := by unfold eqcells at he; simpa using he
        have ih := check_cells (em := em) (n := n) (cs := cs) w ks' (i + 1) fs xs' hr he' (fun j x h => by have := hx (j + 1) x h; rwa [Nat.add_right_comm, Nat.add_assoc])
        have hck : (Instr.checkKey em (n + 1) f.type (.int k a)).run P w = .ok () w := by simp [Instr.checkKey, run_underlying hu]
        simp only [List.forIn_cons, Sem.run_bind, hn, ne_eq, not_false_eq_true, if_true, part_cell ht hV, Result.andThen_ok, hck, Sem.run_pure]
        exact ih
    · rename_i ks' hu hr
      cases hf
      match xs, he with
      | .str a :: xs', he =>
        obtain ⟨V, hV, hVr⟩ := hx 0 _ rfl
        obtain ⟨s, rfl, _⟩ := hVr.of_str
        have ht : isRowT P f.type = some false := by unfold isRowT; rw [hu]
        rw [Nat.add_zero, ← ho] at hV
        have he' : eqcells ks' xs' xs' = some true := by unfold eqcells at he; simpa using he
        have ih := check_cells (em := em) (n := n) (cs := cs) w ks' (i + 1) fs xs' hr he' (fun j x h => by have := hx (j + 1) x h; rwa [Nat.add_right_comm, Nat.add_assoc])
        have hck : (Instr.checkKey em (n + 1) f.type (.string s)).run P w = .ok () w := by simp [Instr.checkKey, run_underlying hu]
        simp only [List.forIn_cons, Sem.run_bind, hn, ne_eq, not_false_eq_true, if_true, part_cell ht hV, Result.andThen_ok, hck, Sem.run_pure]
        exact ih
    · cases hf

theorem check_s {em : Bool} {t : TypeId} (w : World) (n : Nat) (s : ByteArray) (hu : P.underlying t = some .string) : (Instr.checkKey em (n + 1) t (.string s)).run P w = .ok () w := by
  simp [Instr.checkKey, run_underlying hu]
theorem check_key {kt : TypeId} {ks : List Bool} (hk : keyT P kt = some ks) {x : AV} {K : Value} (hx : Rel ρ x K) (hg : goodK ks x = true) (em : Bool) (w : World) : (Instr.checkKey em 10000 kt K).run P w = .ok () w := by
  have hs : eqkey ks x x = some true := by
    unfold goodK at hg
    split at hg
    · assumption
    · cases hg
  rcases keyT_ok hk with ⟨hu, rfl⟩ | ⟨⟨fs, hu⟩, hf, k0, r0, rfl⟩
  · obtain ⟨p, _, rfl, _, _⟩ := eqkey_str hs
    obtain ⟨s, rfl, _⟩ := hx.of_str
    exact check_s w 9999 s hu
  · obtain ⟨p, q, rfl, hq, hc⟩ := eqkey_agg hs
    cases hq
    obtain ⟨vs, rfl, hvs⟩ := hx.of_agg
    have hfl : flatFrom P 0 fs.toList = some (k0 :: r0) := by
      unfold flatEq at hf
      rw [hu] at hf
      simp only at hf
      split at hf
      · exact hf
      · cases hf
    show (Instr.checkKey em (9998 + 1 + 1) kt (.agg vs.toArray)).run P w = _
    rw [Instr.checkKey]
    simp only [Sem.run_bind, run_underlying hu, Result.andThen_ok]
    rw [← Array.forIn_toList]
    refine (congrArg (fun r => Result.andThen r _) (check_cells (em := em) (n := 9998) (cs := vs.toArray) w (k0 :: r0) 0 fs.toList p hfl hc (fun j x h => by obtain ⟨V, g1, g2⟩ := hvs.get h; exact ⟨V, by simpa using g1, g2⟩))).trans rfl

theorem stays_run {old new : Value} (h : Instr.sameBits 10000 old new = true) (w : World) : (Instr.keyThatStays old new).run P w = .ok new w := by
  simp [Instr.keyThatStays, h]
end

section
variable {P : Program} {N : Nat} {ρ : Env} {F : Fr} {a : Act} {o : Oper} {v : AV} {s s' : AS} {w : World}

theorem zero_run {t : TypeId} {z : AV} (h : zeroV P t = some z) (w : World) : ∃ V, (zeroValue t).run P w = .ok V w ∧ ∀ ρ, Rel ρ z V := by
  unfold zeroV at h
  split at h
  case h_2 => cases h
  rename_i i hi
  split at h
  case h_2 => cases h
  rename_i V hz
  exact ⟨V, by simp [zeroValue, typeInfo, hi, hz], fun ρ => cAV_rel h⟩

/-- A map of ours, as memory has it. -/
theorem OkW.map (h : OkW N ρ s w) {id : Nat} {es : List (AV × AV)} (hb : s.h id = some (.map es)) {L : Loc} (hL : ρ.loc id = some L) :
    ∃ ents, w.heap[L.b]? = some (.map ents ents.size) ∧ Ents ρ es ents.toList ∧ L.b < w.heap.size ∧ N ≤ L.b := by
  obtain ⟨L', hL', hN, hlt, ents, clock, h1, h2, rfl, h3⟩ := h.own id _ hb
  rw [hL] at hL'; cases hL'
  exact ⟨ents, h1, ⟨by simpa using h2, h3⟩, hlt, hN⟩
theorem Ents.keys {es : List (AV × AV)} {ents : List MapEntry} (h : Ents ρ es ents) : Keys ρ es ents := ⟨h.1, fun j e q => by obtain ⟨E, g1, g2, _⟩ := h.2 j e q; exact ⟨E, g1, g2⟩⟩

theorem r_lookup (hw : OkW N ρ s w) (hF : FrOk ρ F a) {t kt et : TypeId} {ks : List Bool} (ht : mapT P t = some (kt, ks, et)) {z : AV} (hz : zeroV P et = some z) {m k : Operand} {m' k' : Opd} {ok : Bool} (ho : o.op = .lookup t m k ok) (hm : cO m = some m') (hk : cO k = some k')
    (hv : (ROp.lookup z ok ks m' k').ev F s.h = some v) : ∃ V, Rel ρ v V ∧ (execOp a.eval o).run P w = .ok (.value V) w := by
  obtain ⟨hu, hkt⟩ := mapT_ok ht
  have h1 := hF.ev hm; have h2 := hF.ev hk
  have ex : ∀ V, (Instr.lookup t (a.eval m) (a.eval k) ok).run P w = .ok V w → (execOp a.eval o).run P w = .ok (.value V) w := by
    intro V hr
    simp [execOp, ho, hr]
  obtain ⟨Z, hZ, hZr⟩ := zero_run hz w
  simp only [ROp.ev] at hv
  split at hv
  case isFalse => cases hv
  rename_i hg
  generalize a.eval k = K at h2 ex
  have none_case : ∀ (M : Value) (es : Array MapEntry), a.eval m = M → (M = .map none ∧ es = #[] ∨ ∃ r c, M = .map (some r) ∧ w.heap[r]? = some (.map es c)) → (Instr.findKey kt K es.toList).run P w = .ok none w → v = (if ok then .tup [z, .bool false] else z) → ∃ V, Rel ρ v V ∧ (execOp a.eval o).run P w = .ok (.value V) w := by
    rintro M es hM hMs hfk rfl
    have hck := check_key hkt h2 hg es.isEmpty w
    refine ⟨if ok then .tuple #[Z, .bool false] else Z, ?_, ex _ ?_⟩
    · cases ok
      · exact hZr ρ
      · exact Rel.tup' (vs := [Z, .bool false]) (.cons (hZr ρ) (.cons .bool .nil))
    · rw [hM]
      rcases hMs with ⟨rfl, rfl⟩ | ⟨r, c, rfl, hr⟩
      · simp only [Instr.lookup, Sem.run_bind, run_underlying hu, Result.andThen_ok, Sem.run_pure, hck, hfk, hZ]
      · simp only [Instr.lookup, Sem.run_bind, run_underlying hu, Result.andThen_ok, Sem.run_pure, Go.MapKept.run_getObj_map hr, hck, hfk, hZ]
  generalize hM : a.eval m = M at h1
  cases hm' : m'.ev F with
  | nilm =>
    rw [hm'] at h1 hv
    cases h1
    simp only [Option.some.injEq] at hv
    exact none_case _ #[] hM (.inl ⟨rfl, rfl⟩) (by obtain ⟨R, g1, g2⟩ := find_key hkt h2 w (es := []) (ents := []) (r := none) ⟨rfl, fun j e q => by cases q⟩ rfl; rw [g1, show R = none from g2]) hv.symm
  | map id =>
    rw [hm'] at h1 hv
    cases h1 with
    | @map _ L hL =>
      simp only at hv
      cases hb : s.h id with
      | none => rw [hb] at hv; cases hv
      | some b =>
        cases b with
        | map es =>
          rw [hb] at hv
          obtain ⟨ents, e1, e2, _⟩ := hw.map hb hL
          simp only [findA] at hv
          cases hf : findIx ks (k'.ev F) es with
          | none => rw [hf] at hv; cases hv
          | some r =>
            obtain ⟨R, g1, g2⟩ := find_key hkt h2 w e2.keys hf
            rw [hf] at hv
            cases r with
            | none =>
              simp only [Option.some.injEq] at hv
              exact none_case _ ents hM (.inr ⟨L.b, ents.size, rfl, e1⟩) (by rw [g1, show R = none from g2]) hv.symm
            | some i =>
              simp only at hv
              obtain ⟨E, g3, rfl, _⟩ := g2
              cases he : es[i]? with
              | none => rw [he] at hv; cases hv
              | some e =>
                rw [he] at hv
                simp only [Option.some.injEq] at hv
                subst hv
                obtain ⟨E', g5, _, g6, _⟩ := e2.2 i e he
                rw [g3] at g5; cases g5
                have hck := check_key hkt h2 hg ents.isEmpty w
                refine ⟨if ok then .tuple #[E.val, .bool true] else E.val, ?_, ex _ ?_⟩
                · cases ok
                  · exact g6
                  · exact Rel.tup' (vs := [E.val, .bool true]) (.cons g6 (.cons .bool .nil))
                · rw [hM]
                  simp only [Instr.lookup, Sem.run_bind, run_underlying hu, Result.andThen_ok, Sem.run_pure, Go.MapKept.run_getObj_map e1, hck, g1]
        | _ => rw [hb] at hv; cases hv
  | _ => rw [hm'] at hv; cases hv
/-- A map of ours gets other entries. -/
theorem map_put (hw : OkW N ρ s w) {id : Nat} {es es' : List (AV × AV)} (hb : s.h id = some (.map es)) {L : Loc} (hL : ρ.loc id = some L) {ents : Array MapEntry} {c : Nat} (he : Ents ρ es' ents.toList) (hc : c = ents.size) :
    OkW N ρ { s with h := s.h.upd id (some (.map es')) } { w with heap := w.heap.setIfInBounds L.b (.map ents c) } ∧ Below N w { w with heap := w.heap.setIfInBounds L.b (.map ents c) } := by
  obtain ⟨ents0, e1, e2, hlt, hN⟩ := hw.map hb hL
  subst hc
  have far : ∀ k, k ≠ L.b → ({ w with heap := w.heap.setIfInBounds L.b (.map ents ents.size) } : World).heap[k]? = w.heap[k]? := fun k hk => by
    show (w.heap.setIfInBounds L.b _)[k]? = _
    simp [Ne.symm hk]
  refine ⟨put_ok hw (by rw [hb]; simp) hL (by simp) far ⟨ents, ents.size, ?_, by simpa using he.1, rfl, he.2⟩, ⟨rfl, rfl, rfl, by simp, fun k hk => far k (by omega)⟩⟩
  show (w.heap.setIfInBounds L.b _)[L.b]? = _
  simp [hlt]

theorem ents_set {es : List (AV × AV)} {ents : Array MapEntry} (h : Ents ρ es ents.toList) {i : Nat} {k v : AV} {f : MapEntry → MapEntry} (hf : ∀ E, ents[i]? = some E → Rel ρ k (f E).key ∧ Rel ρ v (f E).val ∧ (f E).born = E.born) :
    Ents ρ (es.set i (k, v)) (ents.modify i f).toList := by
  refine ⟨by simpa using h.1, fun j e hj => ?_⟩
  rw [List.getElem?_set] at hj
  by_cases hij : i = j
  · subst hij
    rw [if_pos rfl] at hj
    split at hj
    case isFalse => cases hj
    rename_i hlt
    cases hj
    obtain ⟨E, g1, _, _, g4⟩ := h.2 i _ (List.getElem?_eq_getElem hlt)
    have g1' : ents[i]? = some E := by simpa using g1
    obtain ⟨f1, f2, f3⟩ := hf E g1'
    exact ⟨f E, by simp [g1'], f1, f2, by rw [f3, g4]⟩
  · rw [if_neg hij] at hj
    obtain ⟨E, g1, g2, g3, g4⟩ := h.2 j e hj
    have g1' : ents[j]? = some E := by simpa using g1
    exact ⟨E, by simp [hij, g1'], g2, g3, g4⟩

theorem ents_push {es : List (AV × AV)} {ents : Array MapEntry} (h : Ents ρ es ents.toList) {k v : AV} {K V : Value} (hk : Rel ρ k K) (hv : Rel ρ v V) :
    Ents ρ (es ++ [(k, v)]) (ents.push { key := K, val := V, born := ents.size }).toList := by
  have hl : ents.size = es.length := by simpa using h.1
  refine ⟨by simp [hl], fun j e hj => ?_⟩
  rw [Array.toList_push]
  by_cases q : j < es.length
  · rw [List.getElem?_append_left q] at hj
    obtain ⟨E, g1, g2, g3, g4⟩ := h.2 j e hj
    exact ⟨E, by rw [List.getElem?_append_left (by rw [h.1]; exact q)]; exact g1, g2, g3, g4⟩
  · rw [List.getElem?_append_right (by omega)] at hj
    obtain ⟨rfl, rfl⟩ : j = es.length ∧ e = (k, v) := by
      have hlt := (List.getElem?_eq_some_iff.1 hj).1
      simp only [List.length_singleton] at hlt
      have : j = es.length := by omega
      subst this
      simp at hj
      exact ⟨rfl, hj.symm⟩
    exact ⟨{ key := K, val := V, born := ents.size }, by rw [List.getElem?_append_right (by rw [h.1]; exact Nat.le_refl _), h.1]; simp, hk, hv, hl⟩

theorem e_mapset (hw : OkW N ρ s w) (hF : FrOk ρ F a) {t kt et : TypeId} {ks : List Bool} (ht : mapT P t = some (kt, ks, et)) {m k x : Operand} {m' k' x' : Opd} (ho : o.op = .mapUpdate t m k x) (hm : cO m = some m') (hk : cO k = some k') (hx : cO x = some x') {call : Nat → List AV → M AV} {aid : Nat}
    (hv : (EOp.mapset ks m' k' x').ev call F aid s = some (v, s')) :
    ∃ w', (execOp a.eval o).run P w = .ok .skip w' ∧ v = .tup [] ∧ OkW N ρ s' w' ∧ Below N w w' ∧ s'.n = s.n ∧ s'.lim = s.lim ∧ ∀ id, id < s.lim → s'.h id = s.h id := by
  obtain ⟨hu, hkt⟩ := mapT_ok ht
  have h1 := hF.ev hm; have h2 := hF.ev hk; have h3 := hF.ev hx
  have ex : ∀ w', (Instr.mapUpdate t (a.eval m) (a.eval k) (a.eval x)).run P w = .ok () w' → (execOp a.eval o).run P w = .ok .skip w' := by
    intro w' hr
    simp [execOp, ho, hr]
  simp only [EOp.ev] at hv
  split at hv
  case h_2 => cases hv
  rename_i id hm'
  rw [hm'] at h1
  split at hv
  case h_2 => cases hv
  rename_i es hb
  split at hv
  case isFalse => cases hv
  rename_i hc
  split at hv
  case h_2 => cases hv
  rename_i r hr
  cases hv
  have hlim := Nat.le_of_ble_eq_true hc.1
  generalize a.eval k = K at h2 ex
  generalize a.eval x = X at h3 ex
  generalize a.eval m = M at h1 ex
  cases h1 with
  | @map _ L hL =>
    obtain ⟨ents, e1, e2, hlt, hN⟩ := hw.map hb hL
    have hck := check_key hkt h2 hc.2.2 false w
    have fin : ∀ (ents' : Array MapEntry) c, Ents ρ r ents'.toList → c = ents'.size → (Instr.mapUpdate t (.map (some L.b)) K X).run P w = .ok () { w with heap := w.heap.setIfInBounds L.b (.map ents' c) } →
        ∃ w', (execOp a.eval o).run P w = .ok .skip w' ∧ AV.tup [] = .tup [] ∧ OkW N ρ { s with h := s.h.upd id (some (.map r)) } w' ∧ Below N w w' ∧ s.n = s.n ∧ s.lim = s.lim ∧ ∀ j, j < s.lim → (s.h.upd id (some (.map r))) j = s.h j := by
      intro ents' c hE hcs hrun
      obtain ⟨p1, p2⟩ := map_put hw hb hL hE hcs
      exact ⟨_, ex _ hrun, rfl, p1, p2, rfl, rfl, fun j hj => upd_ne _ _ (by omega)⟩
    unfold mapPut at hr
    cases hf : findIx ks (k'.ev F) es with
    | none => rw [hf] at hr; cases hr
    | some q =>
      obtain ⟨R, g1, g2⟩ := find_key hkt h2 w e2.keys hf
      rw [hf] at hr
      cases q with
      | none =>
        simp only [Option.some.injEq] at hr
        subst hr
        rw [show R = none from g2] at g1
        refine fin (ents.push { key := K, val := X, born := ents.size }) (ents.size + 1) (ents_push e2 h2 h3) (by simp) ?_
        simp only [Instr.mapUpdate, Sem.run_bind, run_underlying hu, Result.andThen_ok, Go.MapKept.run_getObj_map e1, hck, g1, Go.MapKept.run_setObj_map _ e1]
      | some i =>
        simp only [Option.some.injEq] at hr
        subst hr
        obtain ⟨E, g3, rfl, g4⟩ := g2
        have g3' : ents[i]? = some E := by simpa using g3
        refine fin (ents.modify i fun e => { e with key := K, val := X }) ents.size (ents_set e2 fun E' _ => ⟨h2, h3, rfl⟩) (by simp) ?_
        simp only [Nat.zero_add] at g1
        simp only [Instr.mapUpdate, Sem.run_bind, run_underlying hu, Result.andThen_ok, Go.MapKept.run_getObj_map e1, hck, g1, g3', Option.map_some, Option.getD_some, stays_run g4, Go.MapKept.run_setObj_map _ e1]

theorem e_mapent (hw : OkW N ρ s w) (hF : FrOk ρ F a) {t kt et : TypeId} {ks : List Bool} (ht : mapT P t = some (kt, ks, et)) {z : AV} (hz : zeroV P et = some z) {m k : Operand} {m' k' : Opd} (ho : o.op = .mapEntry t m k) (hm : cO m = some m') (hk : cO k = some k') {call : Nat → List AV → M AV} {aid : Nat}
    (hv : (EOp.mapent ks z m' k').ev call F aid s = some (v, s')) :
    ∃ V w', (execOp a.eval o).run P w = .ok (.value V) w' ∧ Rel ρ v V ∧ OkW N ρ s' w' ∧ Below N w w' ∧ s'.n = s.n ∧ s'.lim = s.lim ∧ ∀ id, id < s.lim → s'.h id = s.h id := by
  obtain ⟨hu, hkt⟩ := mapT_ok ht
  have h1 := hF.ev hm; have h2 := hF.ev hk
  have ex : ∀ V w', (Instr.mapEntry t (a.eval m) (a.eval k)).run P w = .ok V w' → (execOp a.eval o).run P w = .ok (.value V) w' := by
    intro V w' hr
    simp [execOp, ho, hr]
  obtain ⟨Z, hZ, hZr⟩ := zero_run hz w
  simp only [EOp.ev] at hv
  split at hv
  case h_2 => cases hv
  rename_i id hm'
  rw [hm'] at h1
  split at hv
  case h_2 => cases hv
  rename_i es hb
  split at hv
  case isFalse => cases hv
  rename_i hc
  split at hv
  case h_2 => cases hv
  rename_i v0 i0 r hr
  cases hv
  have hlim := Nat.le_of_ble_eq_true hc.1
  generalize a.eval k = K at h2 ex
  generalize a.eval m = M at h1 ex
  cases h1 with
  | @map _ L hL =>
    obtain ⟨ents, e1, e2, hlt, hN⟩ := hw.map hb hL
    have hck := check_key hkt h2 hc.2.2 false w
    have fin : ∀ (ents' : Array MapEntry) c V0, Rel ρ v0 V0 → Ents ρ r ents'.toList → c = ents'.size → (Instr.mapEntry t (.map (some L.b)) K).run P w = .ok (.tuple #[V0, .int .i64 i0]) { w with heap := w.heap.setIfInBounds L.b (.map ents' c) } →
        ∃ V w', (execOp a.eval o).run P w = .ok (.value V) w' ∧ Rel ρ (.tup [v0, .int .i64 i0]) V ∧ OkW N ρ { s with h := s.h.upd id (some (.map r)) } w' ∧ Below N w w' ∧ s.n = s.n ∧ s.lim = s.lim ∧ ∀ j, j < s.lim → (s.h.upd id (some (.map r))) j = s.h j := by
      intro ents' c V0 hV0 hE hcs hrun
      obtain ⟨p1, p2⟩ := map_put hw hb hL hE hcs
      exact ⟨_, _, ex _ _ hrun, Rel.tup' (vs := [V0, .int .i64 i0]) (.cons hV0 (.cons .int .nil)), p1, p2, rfl, rfl, fun j hj => upd_ne _ _ (by omega)⟩
    unfold mapEnt at hr
    cases hf : findIx ks (k'.ev F) es with
    | none => rw [hf] at hr; cases hr
    | some q =>
      obtain ⟨R, g1, g2⟩ := find_key hkt h2 w e2.keys hf
      rw [hf] at hr
      cases q with
      | none =>
        simp only [Option.some.injEq, Prod.mk.injEq] at hr
        obtain ⟨rfl, rfl, rfl⟩ := hr
        rw [show R = none from g2] at g1
        have hl : ents.size = es.length := by simpa using e2.1
        refine fin (ents.push { key := K, val := Z, born := ents.size }) (ents.size + 1) Z (hZr ρ) (ents_push e2 h2 (hZr ρ)) (by simp) ?_
        simp only [Instr.mapEntry, Sem.run_bind, run_underlying hu, Result.andThen_ok, Go.MapKept.run_getObj_map e1, hck, g1, hZ, Go.MapKept.run_setObj_map _ e1, Sem.run_pure, goInt, hl]
      | some i =>
        simp only at hr
        obtain ⟨E, g3, rfl, g4⟩ := g2
        have g3' : ents[i]? = some E := by simpa using g3
        cases he : es[i]? with
        | none => rw [he] at hr; cases hr
        | some e =>
          rw [he] at hr
          simp only [Option.some.injEq, Prod.mk.injEq] at hr
          obtain ⟨rfl, rfl, rfl⟩ := hr
          obtain ⟨E', g5, _, g6, g7⟩ := e2.2 i e he
          rw [g3] at g5; cases g5
          refine fin (ents.modify i fun e => { e with key := K }) ents.size E.val g6 (ents_set e2 fun E' hE' => ⟨h2, by rw [g3'] at hE'; cases hE'; exact g6, rfl⟩) (by simp) ?_
          simp only [Nat.zero_add] at g1
          simp only [Instr.mapEntry, Sem.run_bind, run_underlying hu, Result.andThen_ok, Go.MapKept.run_getObj_map e1, hck, g1, g3', Option.map_some, Option.getD_some, stays_run g4, Go.MapKept.run_setObj_map _ e1, Sem.run_pure, goInt, g7]

theorem e_entset (hw : OkW N ρ s w) (hF : FrOk ρ F a) {t : TypeId} {m st x : Operand} {m' st' x' : Opd} (ho : o.op = .entryStore t m st x) (hm : cO m = some m') (hst : cO st = some st') (hx : cO x = some x') {call : Nat → List AV → M AV} {aid : Nat}
    (hv : (EOp.entset m' st' x').ev call F aid s = some (v, s')) :
    ∃ w', (execOp a.eval o).run P w = .ok .skip w' ∧ v = .tup [] ∧ OkW N ρ s' w' ∧ Below N w w' ∧ s'.n = s.n ∧ s'.lim = s.lim ∧ ∀ id, id < s.lim → s'.h id = s.h id := by
  have h1 := hF.ev hm; have h2 := hF.ev hst; have h3 := hF.ev hx
  have ex : ∀ w', (Instr.entryStore t (a.eval m) (a.eval st) (a.eval x)).run P w = .ok () w' → (execOp a.eval o).run P w = .ok .skip w' := by
    intro w' hr
    simp [execOp, ho, hr]
  simp only [EOp.ev] at hv
  split at hv
  case h_2 => cases hv
  rename_i id i hm' hs'
  rw [hm'] at h1
  rw [hs'] at h2
  split at hv
  case h_2 => cases hv
  rename_i es hb
  split at hv
  case isFalse => cases hv
  rename_i hc
  split at hv
  case h_2 => cases hv
  rename_i r hr
  cases hv
  have hlim := Nat.le_of_ble_eq_true hc.1
  have h2' := h2.of_int
  rw [h2'] at ex
  generalize a.eval x = X at h3 ex
  generalize a.eval m = M at h1 ex
  unfold mapSet at hr
  cases he : es[i]? with
  | none => rw [he] at hr; cases hr
  | some e =>
    rw [he] at hr
    simp only [Option.some.injEq] at hr
    subst hr
    cases h1 with
    | @map _ L hL =>
      obtain ⟨ents, e1, e2, hlt, hN⟩ := hw.map hb hL
      obtain ⟨E, g1, g2, g3, g4⟩ := e2.2 i e he
      have g1' : ents[i]? = some E := by simpa using g1
      have hil : i < ents.size := (Array.getElem?_eq_some_iff.1 g1').1
      have hix : ents.findIdx? (fun e => (e.born : Int) == Int.ofNat i) = some i := by
        rw [Array.findIdx?_eq_some_iff_getElem]
        refine ⟨hil, ?_, fun j hj => ?_⟩
        · have : ents[i] = E := (Array.getElem?_eq_some_iff.1 g1').2
          rw [this, g4]; simp
        · have hjl : j < es.length := by have := e2.1; simp at this; omega
          obtain ⟨E', q1, _, _, q4⟩ := e2.2 j _ (List.getElem?_eq_getElem hjl)
          have q1' : ents[j]? = some E' := by simpa using q1
          have : ents[j] = E' := (Array.getElem?_eq_some_iff.1 q1').2
          rw [this, q4]
          simp; omega
      obtain ⟨p1, p2⟩ := map_put hw hb hL (ents := ents.modify i fun e => { e with val := X }) (c := ents.size) (ents_set (k := e.1) (v := x'.ev F) e2 fun E' hE' => by rw [g1'] at hE'; cases hE'; exact ⟨g2, h3, rfl⟩) (by simp)
      refine ⟨_, ex _ ?_, rfl, p1, p2, rfl, rfl, fun j hj => upd_ne _ _ (by omega)⟩
      simp only [Instr.entryStore, Sem.run_bind, Result.andThen_ok, Go.MapKept.run_getObj_map e1, asInt, asIntOf, Sem.run_pure, hix, Go.MapKept.run_setObj_map _ e1]
end
end
end Go.Proofs.Ytgcciohenncplaa.Ai
