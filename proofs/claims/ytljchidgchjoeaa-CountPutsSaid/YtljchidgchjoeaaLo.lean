/- The judgement of a lone goroutine. -/
import Derived.Test.YtljchidgchjoeaaAx0d
namespace Go.Ax
open Go Go.RowKit

/-- Alone: closed backwards under the machine's steps. -/
def loneJ (P : Program) : Judg P where
  main := true
  lvl := 0
  rel := Eq
  closed S := ∀ fr cs w fr' cs' w', step P (lone fr cs w) = .next (lone fr' cs' w') → S fr' cs' w' → S fr cs w
  refl _ := rfl
  trans _ _ _ := Eq.trans
  drawn a b h := ⟨a.drawn, by subst h; rfl⟩
  world S fr cs w w1 _ h hs := h ▸ hs
  move0 S fr cs fr' cs' w hS h hn := hS _ _ _ _ _ _ (step_lone_go (by
    have := h w
    simp only [gor] at this
    rw [this]; rfl)) hn
  sem S fr cs w α s ok f hS hns hst hun hstep h := by
    obtain ⟨hok, hn⟩ := h w rfl
    obtain ⟨es, he, _⟩ := hstep w hok
    refine hS _ _ _ _ _ _ (step_lone_go ?_) hn
    simp only [gor] at he
    rw [he]; rfl

theorem CallsL.alone {P : Program} {f : FuncId} {args : Array Value} {w : World} {R : Ending → World → Prop} (h : CallsL (loneJ P) f args w R) : Calls P f args w R := by
  intro cs
  let S : SetS := fun fr cs' w' => ∃ e w2 fr2, R e w2 ∧ Steps P (lone fr cs' w') (lone fr2 cs w2) ∧ fr2.fn = f ∧ fr2.leaving P w2 e ∧ e ≠ .outgrown
  have hS : (loneJ P).closed S := fun fr cs' w' fr' cs'' w'' hs ⟨e, w2, fr2, h1, h2, h3⟩ => ⟨e, w2, fr2, h1, .head hs h2, h3⟩
  obtain ⟨e, w2, fr2, h1, h2, h3, h4, h5⟩ := h cs S hS fun fr w' hE => by
    obtain ⟨hff, hk, hd, fn, hf, hE⟩ := hE
    rcases hE with ⟨hm, hE⟩ | ⟨v, hm, hE⟩
    · obtain ⟨v, hv, hr⟩ := hE w' rfl
      exact ⟨.returned v, w', fr, hr, Steps.refl _ _, hff, ⟨hm, hd, hk, fn, by rw [hff]; exact hf, hv⟩, by simp⟩
    · exact ⟨.panicked _, w', fr, hE, Steps.refl _ _, hff, ⟨hm, hd, fn, by rw [hff]; exact hf⟩, by simp⟩
  refine ⟨e, w2, fr2, h1, ?_, h3, h4⟩
  cases e with
  | returned v => exact h2
  | panicked ch => exact h2
  | outgrown => exact absurd rfl h5

end Go.Ax
