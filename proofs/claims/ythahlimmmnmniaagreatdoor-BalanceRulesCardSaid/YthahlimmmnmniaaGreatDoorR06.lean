/- Own rows as sources. No conditions. -/
import Derived.Test.YthahlimmmnmniaaGreatDoorR01
import Derived.Test.YthahlimmmnmniaaGreatDoorR04
namespace Go.Fw
open Go.RowKit

theorem own_form' {w : World} {base e size n : Nat} {v : Value} {xs : List Value} (h : w.ownsRow base e size v n xs) : ∃ ad cp, v = .slice ad n cp ∧ (n ≤ cp ∨ n = 0) := by
  obtain ⟨ad, cp, h1, h2, _⟩ := own_form h
  exact ⟨ad, cp, h1, h2⟩
/-- An own row as a source, whatever has been made since. -/
theorem own_src {w : World} {base e size n : Nat} {v : Value} {xs : List Value} (h : w.ownsRow base e size v n xs) :
    ∃ ad cp, v = .slice ad n cp ∧ ∀ W, Fr [] w W → Srcs W (.slice ad n cp) n size xs := by
  rcases h.2 with ⟨h0, h1⟩ | ⟨g, cap, cur, h0, hb, hg, r⟩
  · subst h1
    refine ⟨none, 0, h0, fun W _ => ⟨by rw [h.1], .inl ⟨rfl, rfl⟩⟩⟩
  · subst h0
    refine ⟨_, _, rfl, fun W hf => ⟨h.1, .inr ⟨_, _, rfl, fun j u hu => ?_⟩⟩⟩
    rw [add_off]
    exact own_cell (own_fr h hf (by simp)) hu
theorem src_zero {W : World} {c : Prop} [Decidable c] {a b : Addr} {k size : Nat} : Srcs W (.slice (if c then some a else some b) 0 k) 0 size [] := by
  split <;> exact ⟨by simp, .inr ⟨_, _, rfl, fun j u h => by simp at h⟩⟩
end Go.Fw
