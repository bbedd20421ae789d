/- Any text is the tokens that the document says, or none, and where: both sides are one plain scan of the text's bytes. -/
import Derived.Test.YtjgjcbhkalcjoaaPx7
import Derived.Test.YtjgjcbhkalcjoaaTokMore
namespace Go.Proofs.Ytjgjcbhkalcjoaa.Pure
open Go.RowKit Go.Proofs.Ytjgjcbhkalcjoaa.P Go.Proofs.YtjgjcbhkalcjoaaW.PrintWords Go.Proofs.YtjgjcbhkalcjoaaW.PrintLast Go.Proofs.Ytjgjcbhkalcjoaa.Tok

theorem round (s : ByteArray) (hs : s.size ≤ 2000) (n : Nat) (hn : n < 2) (h : ∀ t : ByteArray, t.size ≤ 800 → Ev (fun k => entaillaw6_TokeTells.l0 k t ((n + 1 : Nat) : Int)) true) :
    Ev (fun k => entaillaw6_TokeTells.l0 k s (n : Int)) true := by
  have h1 := toke_tokens s (by omega)
  have h2 := ref_tokens s (by omega)
  obtain ⟨m, t, h3, h4, h5⟩ := tame_ev s (by omega)
  have h6 := h t (by have := h4.size; omega)
  have hl := scan_len (s.size + 1) 0 (A s)
  rw [A_len] at hl
  generalize scan (s.size + 1) 0 (A s) = x at *
  obtain ⟨ts, e⟩ := x
  obtain ⟨r, a, f, hf⟩ : ∃ r a f, fin [] (ts, e) = (r, a, f) := ⟨_, _, _, rfl⟩
  have hr : r.length ≤ 1000000000 := by
    unfold fin at hf
    cases e with
    | none => simp at hf; obtain ⟨rfl, _⟩ := hf; simp at hl; omega
    | some q => simp at hf; obtain ⟨rfl, _⟩ := hf; simp
  rw [hf] at h1 h2
  refine Ev.step (f := fun k => (toke_Tokens.f k s).bind fun bt192 => ((entailref6_Tokens.f k s).bind fun bt197 => ((entaillaw6_Same.f k bt192.1 bt197.1).bind fun t202 => (if t202 = true then (if bt192.2.1 = bt197.2.1 then (if bt192.2.2 = bt197.2.2 then ((entaillaw6_Tame.f k s).bind fun t203 => (entaillaw6_TokeTells.l0 k t203 (wrap64 ((n : Int) + 1)))) else (none)) else (none)) else (none))))) (fun k => ?_) ?_
  · simp only [entaillaw6_TokeTells.l0]; rw [if_pos (by omega)]
  · refine Ev.bind (f := fun k bt192 => ((entailref6_Tokens.f k s).bind fun bt197 => ((entaillaw6_Same.f k bt192.1 bt197.1).bind fun t202 => (if t202 = true then (if bt192.2.1 = bt197.2.1 then (if bt192.2.2 = bt197.2.2 then ((entaillaw6_Tame.f k s).bind fun t203 => (entaillaw6_TokeTells.l0 k t203 (wrap64 ((n : Int) + 1)))) else (none)) else (none)) else (none))))) h1 ?_
    refine Ev.bind (f := fun k bt197 => ((entaillaw6_Same.f k r bt197.1).bind fun t202 => (if t202 = true then (if a = bt197.2.1 then (if f = bt197.2.2 then ((entaillaw6_Tame.f k s).bind fun t203 => (entaillaw6_TokeTells.l0 k t203 (wrap64 ((n : Int) + 1)))) else (none)) else (none)) else (none)))) h2 ?_
    refine Ev.bind (f := fun k t202 => (if t202 = true then (if a = a then (if f = f then ((entaillaw6_Tame.f k s).bind fun t203 => (entaillaw6_TokeTells.l0 k t203 (wrap64 ((n : Int) + 1)))) else (none)) else (none)) else (none))) (same_ev r hr) ?_
    simp only [if_true]
    refine Ev.bind (f := fun k t203 => entaillaw6_TokeTells.l0 k t203 (wrap64 ((n : Int) + 1))) h3 ?_
    rw [wrap_id (by omega) (by omega)]
    exact h6

theorem last (t : ByteArray) : Ev (fun k => entaillaw6_TokeTells.l0 k t ((2 : Nat) : Int)) true := by
  refine Ev.step (f := fun k => (entaillaw6_awake.f k).bind fun t191 => some t191) (fun k => ?_) ?_
  · simp only [entaillaw6_TokeTells.l0]; rw [if_neg (by decide)]
  · exact Ev.bind (f := fun _ t191 => some t191) awake_ev (Ev.now _)

theorem TokeTells : entaillaw6_TokeTells.Pure := by
  intro s _
  refine Ev.rounds (g := fun k => entaillaw6_TokeTells.f k s) ?_
  by_cases h : (s.size : Int) > 2000
  · refine Ev.congr (f := fun k => (entaillaw6_awake.f k).bind fun t190 => some t190) (fun k => ?_) (Ev.bind (f := fun _ t190 => some t190) awake_ev (Ev.now _))
    unfold entaillaw6_TokeTells.f; rw [if_pos h]
  · refine Ev.congr (f := fun k => entaillaw6_TokeTells.l0 k s ((0 : Nat) : Int)) (fun k => ?_) ?_
    · unfold entaillaw6_TokeTells.f; rw [if_neg h]; rfl
    · exact round s (by omega) 0 (by decide) fun t ht => round t (by omega) 1 (by decide) fun u _ => last u

end Go.Proofs.Ytjgjcbhkalcjoaa.Pure
