/- Contracts of the laws' own helpers over slices of states, and of the functions of the graphs of states. -/
import Derived.Test.YtlbhfjbbkkkldaaPs
import Derived.Test.YtlbhfjbbkkkldaaC
import Derived.StillTailTactics
namespace Go.Proofs.Ytlbhfjbbkkkldaa
open Go.RowKit
set_option linter.unusedVariables false

/-- The numbers' two cells of the state at i. -/
theorem sts_at {h : Int} : ∀ {xs : List Int} {i : Nat} {x : Int}, xs[i]? = some x → (sts h xs)[i * 2]? = some (.int .i64 h) ∧ (sts h xs)[i * 2 + 1]? = some (.int .i64 x) := by
  intro xs
  induction xs with
  | nil => intro i x k; simp at k
  | cons y xs ih =>
    intro i x k
    have e : sts h (y :: xs) = .int .i64 h :: .int .i64 y :: sts h xs := by simp [sts]
    rw [e]
    cases i with
    | zero => simp at k; subst k; simp
    | succ i =>
      simp only [List.getElem?_cons_succ] at k
      have := ih k
      have e1 : (i + 1) * 2 = i * 2 + 2 := by omega
      rw [e1]
      simpa using this
theorem Rd.st_at {w : World} {B n i : Nat} {A : Option Addr} {h : Int} {xs : List Int} (k : Rd w B 2 A n (sts h xs)) (hi : i < n) :
    ∃ b off x, A = some ⟨b, off, none⟩ ∧ b < B ∧ xs[i]? = some x ∧ w.cell? ⟨b, off + i * 2, none⟩ = some (.int .i64 h) ∧ w.cell? ⟨b, off + i * 2 + 1, none⟩ = some (.int .i64 x) := by
  obtain ⟨b, off, e, hb, hc⟩ := k.2 (by omega)
  have hl : i < xs.length := by have := k.1; rw [sts_len] at this; omega
  have := sts_at (h := h) (List.getElem?_eq_getElem hl)
  exact ⟨b, off, xs[i], e, hb, List.getElem?_eq_getElem hl, hc _ _ this.1, by rw [Nat.add_assoc]; exact hc _ _ this.2⟩


end Go.Proofs.Ytlbhfjbbkkkldaa
