/- A piece of a block: the cells from an offset on. -/
import Derived.Test.YtlbhfjbbkkkldaaKit
namespace Go.Proofs.Ytlbhfjbbkkkldaa
open Go.RowKit
set_option linter.unusedVariables false

/-- From offset o on, block g holds the cells cs. -/
def Bo (w : World) (g o : Nat) (cs : Array Value) : Prop := g < w.heap.size ∧ ∀ (i : Nat) (v : Value), cs[i]? = some v → w.cell? ⟨g, o + i, none⟩ = some v
theorem Bo.lt {w : World} {g o : Nat} {cs : Array Value} (h : Bo w g o cs) : g < w.heap.size := h.1
theorem Bo.cell {w : World} {g o : Nat} {cs : Array Value} (h : Bo w g o cs) (i : Nat) (hi : i < cs.size := by simp) : w.cell? ⟨g, o + i, none⟩ = cs[i]? := by
  rw [Array.getElem?_eq_getElem hi]
  exact h.2 i _ (Array.getElem?_eq_getElem hi)
theorem Bo.below {w w' : World} {g o B : Nat} {cs : Array Value} (h : Bo w g o cs) (hb : Below B w w') (hg : g < B) : Bo w' g o cs :=
  ⟨(by have h1 := hb.block g hg; rw [Array.getElem?_eq_getElem h.1] at h1; exact (Array.getElem?_eq_some_iff.1 h1).1), fun i v hv => (hb.cell (p := ⟨g, o + i, none⟩) hg).trans (h.2 i v hv)⟩
theorem Bx.bo {w : World} {g : Nat} {t : TypeId} {cs : Array Value} (h : Bx w g t cs) : Bo w g 0 cs :=
  ⟨h.lt, fun i v hv => by rw [Nat.zero_add, h.cell i]; exact hv⟩
end Go.Proofs.Ytlbhfjbbkkkldaa
