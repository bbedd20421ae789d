/- Calls: all of it. -/
import Derived.Test.YtgcciohenncplaaAi23
namespace Go.Proofs.Ytgcciohenncplaa.Ai
noncomputable section
open Go.RowKit (Below)

/-- The functions of the plain run are Go's. -/
structure FnsOk (P : Program) (q : Nat → Bool) (T : Nat → Notes) (fns : Nat → Option AFn) : Prop where
  fn : ∀ f A, fns f = some A → ∃ fn, P.funcs[f]? = some fn ∧ cFn P q (T f) fn = some A
/-- What is known of functions otherwise. -/
abbrev GOk (P : Program) (G : Nat → List AV → M AV) : Prop := CallOk P G

section
variable {P : Program}

/-- One result, as the machine takes it. -/
def rvS (a : Act) : ResultVar → Sem Value
  | .tmp t => pure (a.tmps.getD t undef)
  | .cell b t => do loadVar t (← asAddr (a.tmps.getD b undef))
theorem res_run {N : Nat} {ρ : Env} {s : AS} {w : World} {F : Fr} {a : Act} (hw : OkW N ρ s w) (hF : FrOk ρ F a) : ∀ {l : List ResultVar} {r : List ARes} {vs : List AV}, cRes P l = some r → resAll F s.h r = some vs →
    ∃ Vs : List Value, RelL ρ vs Vs ∧ (l.mapM (rvS a)).run P w = .ok Vs w
  | [], r, vs, h1, h2 => by
    simp only [cRes, Option.some.injEq] at h1
    subst h1
    simp only [resAll, Option.some.injEq] at h2
    subst h2
    exact ⟨[], .nil, rfl⟩
  | .tmp t :: l, r, vs, h1, h2 => by
    simp only [cRes, Option.map_eq_some_iff] at h1
    obtain ⟨r', hr, rfl⟩ := h1
    simp only [resAll, resOne] at h2
    split at h2
    case h_2 => cases h2
    rename_i v us hv hus
    simp only [Option.some.injEq] at h2 hv
    subst h2; subst hv
    obtain ⟨Vs, g1, g2⟩ := res_run hw hF hr hus
    refine ⟨a.tmps.getD t undef :: Vs, .cons ?_ g1, ?_⟩
    · cases hy : F[t]? with
      | some y =>
        have := hF.rel.at_ t y hy
        rw [List.getD_eq_getElem?_getD, hy, arr_getD]; exact this
      | none =>
        have hlen := hF.rel.len
        have hge : F.length ≤ t := by
          rcases Nat.lt_or_ge t F.length with q | q
          · rw [List.getElem?_eq_getElem q] at hy; cases hy
          · exact q
        rw [List.getD_eq_getElem?_getD, hy, arr_getD, List.getD_eq_getElem?_getD, List.getElem?_eq_none (by omega)]
        exact undef_rel
    · rw [List.mapM_cons, Sem.run_bind, show (rvS a (.tmp t)).run P w = .ok (a.tmps.getD t undef) w from rfl, Result.andThen_ok, Sem.run_bind, g2]
      rfl
  | .cell b t :: l, r, vs, h1, h2 => by
    simp only [cRes] at h1
    split at h1
    case h_2 => cases h1
    rename_i ag sz r' hg hs hr
    cases h1
    simp only [resAll, resOne] at h2
    split at h2
    case h_2 => cases h2
    rename_i v us hv hus
    simp only [Option.some.injEq] at h2
    subst h2
    obtain ⟨Vs, g1, g2⟩ := res_run hw hF hr hus
    have ho : cO (.tmp b) = some (.tmp b) := rfl
    obtain ⟨V, k1, k2⟩ := r_load (o := { dst := none, op := .load t (.tmp b), type := 0, pos := "", after := #[], guard := none }) hw hF hg hs rfl ho hv
    have k3 : (Instr.loadAt t (a.tmps.getD b undef)).run P w = .ok V w := by
      have k2' : ((Instr.loadAt t (a.tmps.getD b undef)).run P w).andThen (fun x w' => Result.ok (Next.value x) w') = .ok (.value V) w := by
        have := k2
        simp only [execOp, Act.eval] at this
        simpa using this
      cases hx : (Instr.loadAt t (a.tmps.getD b undef)).run P w with
      | ok x w' => rw [hx] at k2'; simp only [Result.andThen_ok] at k2'; cases k2'; rfl
      | halt x w' => rw [hx] at k2'; cases k2'
    have k4 : (rvS a (.cell b t)).run P w = .ok V w := by
      show (do loadVar t (← asAddr (a.tmps.getD b undef))).run P w = .ok V w
      have hrel := hF.ev (o := .tmp b) (x := .tmp b) rfl
      have hv' := hv
      simp only [ROp.ev] at hv'
      split at hv'
      · rename_i e; rw [e] at hrel
        have hX : a.eval (.tmp b) = a.tmps.getD b undef := rfl
        rw [hX] at hrel
        generalize hY : a.tmps.getD b undef = Y at hrel k3
        cases hrel with
        | ptr h => simpa [Instr.loadAt, Instr.sureAddr, asAddr] using k3
      · rename_i e; rw [e] at hrel
        have hX : a.eval (.tmp b) = a.tmps.getD b undef := rfl
        rw [hX] at hrel
        generalize hY : a.tmps.getD b undef = Y at hrel k3
        cases hrel with
        | rptr h h' => simpa [Instr.loadAt, Instr.sureAddr, asAddr] using k3
      · cases hv'
    refine ⟨V :: Vs, .cons k1 g1, ?_⟩
    rw [List.mapM_cons, Sem.run_bind, k4, Result.andThen_ok, Sem.run_bind, g2]
    rfl

theorem results_run {N : Nat} {ρ : Env} {s : AS} {w : World} {F : Fr} {a : Act} (hw : OkW N ρ s w) (hF : FrOk ρ F a) {fn : Func} {r : List ARes} {vs : List AV} (h1 : cRes P fn.results.toList = some r) (h2 : resAll F s.h r = some vs) :
    ∃ V, Rel ρ (shut vs) V ∧ (results fn a.tmps).run P w = .ok V w := by
  obtain ⟨Vs, g1, g2⟩ := res_run hw hF h1 h2
  have g3 : (fn.results.mapM (rvS a)).run P w = .ok Vs.toArray w := by
    rw [Array.mapM_eq_mapM_toList, Sem.run_map, g2]
    rfl
  have hrun : (results fn a.tmps).run P w = .ok (if h : Vs.toArray.size = 1 then Vs.toArray[0] else .tuple Vs.toArray) w := by
    have e : results fn a.tmps = (do let vs ← fn.results.mapM (rvS a); pure (if h : vs.size = 1 then vs[0] else .tuple vs)) := by
      unfold results
      congr 2
    rw [e, Sem.run_bind, g3]
    rfl
  refine ⟨_, ?_, hrun⟩
  have hlen := g1.len
  match vs, Vs, g1, hlen with
  | [v], [V], g1, _ => simpa [shut] using g1.at_ 0 v rfl
  | [], [], g1, _ => simpa [shut] using Rel.tup' g1
  | v :: v2 :: vs, V :: V2 :: Vs, g1, _ => simpa [shut] using Rel.tup' g1

theorem acall_ok (hm : P.follows .mixedOrders = true) {q : Nat → Bool} {T : Nat → Notes} {fns : Nat → Option AFn} {G : Nat → List AV → M AV} (hf : FnsOk P q T fns) (hG : GOk P G) : ∀ k, CallOk P (acall fns G k)
  | 0 => ⟨fun f args s v s' h => (by simp only [acall] at h; cases h), fun f args s v s' h => (by simp only [acall] at h; cases h), fun f args s v s' h => (by simp only [acall] at h; cases h)⟩
  | k + 1 => by
    have ih := acall_ok hm hf hG k
    have split : ∀ f args s v s', acall fns G (k + 1) f args s = some (v, s') → G f args s = some (v, s') ∨ ∃ A fn c e F, G f args s = none ∧ P.funcs[f]? = some fn ∧ cFn P q (T f) fn = some A ∧ fn.body = some c ∧ args.length = A.nargs ∧
        acode (acall fns G k) k A.code (args ++ List.replicate (A.ntmps - A.nargs) (.tup [])) s = some ((e, F), s') ∧ (e = .norm ∨ e = .ret) ∧ ∃ vs, resAll F s'.h A.res = some vs ∧ v = shut vs := by
      intro f args s v s' h
      simp only [acall] at h
      split at h
      · rename_i u hu; cases h; exact .inl hu
      · rename_i hu
        split at h
        case h_1 => cases h
        rename_i A hA
        split at h
        case isFalse => cases h
        rename_i hlen
        obtain ⟨fn, hfn, hc⟩ := hf.fn f A hA
        have hb : ∃ c, fn.body = some c := by
          unfold cFn at hc
          split at hc
          · rename_i c r h1 h2; exact ⟨c, h1⟩
          · cases hc
        obtain ⟨c, hbc⟩ := hb
        split at h
        · rename_i F s1 h1
          split at h
          · rename_i vs hvs; cases h; exact .inr ⟨A, fn, c, .norm, F, hu, hfn, hc, hbc, hlen, h1, .inl rfl, vs, hvs, rfl⟩
          · cases h
        · rename_i F s1 h1
          split at h
          · rename_i vs hvs; cases h; exact .inr ⟨A, fn, c, .ret, F, hu, hfn, hc, hbc, hlen, h1, .inr rfl, vs, hvs, rfl⟩
          · cases h
        · cases h
    refine ⟨fun f args s v s' h hl => ?_, fun f args s v s' h => ?_, fun f args s v s' h hl N ρ w Vs hw ha => ?_⟩
    · rcases split f args s v s' h with h1 | ⟨A, fn, c, e, F, _, _, _, _, _, h1, _⟩
      · exact hG.stat f args s v s' h1 hl
      · obtain ⟨g1, g2, g3⟩ := acode_stat ih k _ _ _ _ _ _ h1 hl
        exact ⟨g1, g2, g3⟩
    · rcases split f args s v s' h with h1 | ⟨A, fn, c, e, F, _, h2, h3, h4, _⟩
      · exact hG.into f args s v s' h1
      · refine ⟨fn, h2, ?_, by rw [h4]; rfl⟩
        unfold cFn at h3
        split at h3
        · split at h3
          · cases h3
          · rename_i hn; simpa using hn
        · cases h3
    · rcases split f args s v s' h with h1 | ⟨A, fn, c, e, F, _, h2, h3, h4, h5, h6, h7, vs, h8, rfl⟩
      · exact hG.run f args s v s' h1 hl N ρ w Vs hw ha
      · have hA : ∃ r, cRes P fn.results.toList = some r ∧ A = { nargs := fn.params.size + fn.nfree, ntmps := fn.ntmps, res := r, code := cCode P q (T f) c } := by
          unfold cFn at h3
          rw [h4] at h3
          split at h3
          · rename_i c' r e1 e2
            cases e1
            split at h3
            · cases h3
            · cases h3; exact ⟨r, e2, rfl⟩
          · cases h3
        obtain ⟨r, hr, rfl⟩ := hA
        simp only at h5 h6 h8
        have hlen : Vs.toArray.size = args.length := by simpa using ha.len
        refine calls_of_wp h2 h4 ?_
        have hF : FrOk ρ (args ++ List.replicate (fn.ntmps - (fn.params.size + fn.nfree)) (.tup [])) { tmps := Vs.toArray ++ Array.replicate (fn.ntmps - Vs.toArray.size) undef, defers := [] } := by
          refine ⟨?_, rfl⟩
          have := ha.append (RelL.replicate (undef_rel (ρ := ρ)) (fn.ntmps - (fn.params.size + fn.nfree)))
          rw [← h5, ← hlen] at this ⊢
          simpa using this
        refine code_ok hm ih k c _ s e F s' h6 hl N ρ _ w _ hw hF fun a' w' ρ' hl' => ?_
        obtain ⟨V, k1, k2⟩ := results_run hl'.ok hl'.fr hr h8
        have post : a'.defers = [] ∧ ∃ v, (results fn a'.tmps).run P w' = .ok v w' ∧ ∃ V ρ'', Ending.returned v = .returned V ∧ Done P N ρ w (shut vs) s' (fun id => s.n ≤ id) V w' ρ'' :=
          ⟨hl'.fr.nod, V, k2, V, ρ', rfl, hl'.ext, k1, hl'.ok, hl'.bel, hl'.keep⟩
        rcases h7 with rfl | rfl
        · exact post
        · exact post
end
end
end Go.Proofs.Ytgcciohenncplaa.Ai
