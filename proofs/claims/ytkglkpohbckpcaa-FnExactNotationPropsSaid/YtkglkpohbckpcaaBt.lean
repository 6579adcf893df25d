/- Contracts of the functions of a pattern and a beat. -/
import Derived.Test.YtkglkpohbckpcaaMo
namespace Go.Proofs.Ytkglkpohbckpcaa
open Go.RowKit
set_option linter.unusedVariables false

theorem lf_yes {p : List Int} {b : Int} {i : Nat} {R : Option Nat} (hR : idx p b = R) (h : srch (Ld p) (b % (p.length : Int)) (p.length - i) i = R) (hi : i < p.length) (hL : Ld p i = b % (p.length : Int)) : lf p b = b - p.getD i 0 := by
  obtain ⟨f, hf⟩ : ∃ f, p.length - i = f + 1 := ⟨p.length - i - 1, by omega⟩
  rw [hf, srch_yes hL] at h
  exact lf_some (hR.trans h.symm)
end Go.Proofs.Ytkglkpohbckpcaa
