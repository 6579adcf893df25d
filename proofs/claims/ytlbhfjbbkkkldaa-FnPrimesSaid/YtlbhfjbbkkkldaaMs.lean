/- Plain facts: throws in the order of a beat. -/
import Derived.Test.YtlbhfjbbkkkldaaNs
namespace Go.Proofs.Ytlbhfjbbkkkldaa
open Go.RowKit
set_option linter.unusedVariables false

def geB (a b : Int) : Bool := decide (b ≤ a)
def nz (l : List Int) : List Int := l.filter fun t => decide (t ≠ 0)
/-- The throws that are not 0, in falling order. -/
def rSrt (l : List Int) : List Int := (nz l).mergeSort geB
def rSortZ (l : List Int) : List Int := if rSrt l = [] then [0] else rSrt l
def Fall (l : List Int) : Prop := l.Pairwise fun a b => b ≤ a
theorem rSrt_fall (l : List Int) : Fall (rSrt l) := by
  have h := List.pairwise_mergeSort (le := geB) (fun a b c h1 h2 => by simp [geB] at *; omega) (fun a b => by simp [geB]; omega) (nz l)
  exact h.imp fun h => by simpa [geB] using h
theorem rSrt_perm (l : List Int) : (rSrt l).Perm (nz l) := List.mergeSort_perm _ _
theorem rSrt_uniq {l out : List Int} (h : Fall out) (hp : out.Perm (nz l)) : out = rSrt l :=
  List.Perm.eq_of_pairwise (le := fun a b => b ≤ a) (fun a b _ _ h1 h2 => by omega) h (rSrt_fall l) (hp.trans (rSrt_perm l).symm)
theorem nz_len (l : List Int) : (nz l).length ≤ l.length := List.length_filter_le _ _
theorem rSrt_len (l : List Int) : (rSrt l).length ≤ l.length := by rw [(rSrt_perm l).length_eq]; exact nz_len l
theorem rSrt_mem {l : List Int} {x : Int} (h : x ∈ rSrt l) : x ∈ l ∧ x ≠ 0 := by
  have h2 := (rSrt_perm l).mem_iff.1 h
  simp only [nz, List.mem_filter, decide_eq_true_eq] at h2
  exact h2
theorem nz_snoc (l : List Int) (x : Int) : nz (l ++ [x]) = nz l ++ (if x = 0 then [] else [x]) := by
  unfold nz
  rw [List.filter_append]
  congr 1
  by_cases h : x = 0 <;> simp [h]
theorem nz_step {l : List Int} {k : Nat} {x : Int} (h : l[k]? = some x) : nz (l.take (k + 1)) = nz (l.take k) ++ (if x = 0 then [] else [x]) := by
  rw [List.take_add_one, h]; exact nz_snoc _ _
theorem fall_ins {out : List Int} {x : Int} {j : Nat} (h : Fall out) (hj : j ≤ out.length) (h1 : ∀ m, j ≤ m → m < out.length → out.getD m 0 < x) (h2 : ∀ m, j = m + 1 → x ≤ out.getD m 0) : Fall (out.take j ++ x :: out.drop j) := by
  have hg : ∀ (m : Nat) (hm : m < out.length), out.getD m 0 = out[m] := fun m hm => by rw [List.getD_eq_getElem?_getD, List.getElem?_eq_getElem hm]; rfl
  have hp := List.pairwise_iff_getElem.1 h
  unfold Fall
  rw [List.pairwise_append]
  refine ⟨h.sublist (List.take_sublist _ _), ?_, ?_⟩
  · rw [List.pairwise_cons]
    refine ⟨fun y hy => ?_, h.sublist (List.drop_sublist _ _)⟩
    obtain ⟨i, hi, rfl⟩ := List.mem_iff_getElem.1 hy
    rw [List.length_drop] at hi
    rw [List.getElem_drop]
    have := h1 (j + i) (by omega) (by omega)
    rw [hg _ (by omega)] at this
    omega
  · intro a ha b hb
    obtain ⟨i, hi, rfl⟩ := List.mem_iff_getElem.1 ha
    rw [List.length_take] at hi
    rw [List.getElem_take]
    have hjm : x ≤ out[i]'(by omega) := by
      have h3 := h2 (j - 1) (by omega)
      rw [hg _ (by omega)] at h3
      rcases Nat.lt_or_eq_of_le (show i ≤ j - 1 by omega) with h4 | h4
      · have := hp i (j - 1) (by omega) (by omega) h4; omega
      · subst h4; exact h3
    rcases List.mem_cons.1 hb with rfl | hb
    · exact hjm
    · obtain ⟨i2, hi2, rfl⟩ := List.mem_iff_getElem.1 hb
      rw [List.length_drop] at hi2
      rw [List.getElem_drop]
      have := h1 (j + i2) (by omega) (by omega)
      rw [hg _ (by omega)] at this
      omega
theorem perm_ins {out : List Int} {x : Int} {j : Nat} : (out.take j ++ x :: out.drop j).Perm (out ++ [x]) := by
  have h1 : (out.take j ++ x :: out.drop j).Perm (x :: (out.take j ++ out.drop j)) := List.perm_middle
  rw [List.take_append_drop] at h1
  exact h1.trans (List.perm_append_singleton x out).symm
theorem rSortZ_len {l : List Int} (h : 1 ≤ l.length) : 1 ≤ (rSortZ l).length ∧ (rSortZ l).length ≤ l.length := by
  unfold rSortZ
  have := rSrt_len l
  split
  · simp; omega
  · rename_i hne
    have := List.length_pos_iff.2 hne
    omega
end Go.Proofs.Ytlbhfjbbkkkldaa
