/- Contracts of the laws' own helpers over rows of rows: compare, mark, look again. -/
import Derived.Test.YtlbhfjbbkkkldaaPu
import Derived.StillTailTactics
namespace Go.Proofs.Ytlbhfjbbkkkldaa
open Go.RowKit
set_option linter.unusedVariables false

/-- All numbers of all rows, counted. -/
def tot : List (List Int) → Nat
  | [] => 0
  | r :: rs => r.length + tot rs
/-- The marks k, k + 1, .. through all rows. -/
def mkRows : Nat → List (List Int) → List (List Int)
  | _, [] => []
  | k, r :: rs => marks k r.length :: mkRows (k + r.length) rs
theorem mkRows_len : ∀ (rs : List (List Int)) (k : Nat), (mkRows k rs).length = rs.length := by
  intro rs
  induction rs with
  | nil => intro k; rfl
  | cons r rs ih => intro k; simp [mkRows, ih]
theorem mk_step : ∀ (rs : List (List Int)) (k i : Nat) (r : List Int), rs[i]? = some r → (mkRows k (rs.take i) ++ rs.drop i).set i (marks (k + tot (rs.take i)) r.length) = mkRows k (rs.take (i + 1)) ++ rs.drop (i + 1) := by
  intro rs
  induction rs with
  | nil => intro k i r h; simp at h
  | cons r0 rs ih =>
    intro k i r h
    cases i with
    | zero => simp at h; subst h; simp [mkRows, tot]
    | succ i =>
      simp only [List.getElem?_cons_succ] at h
      have := ih (k + r0.length) i r h
      simp only [List.take_succ_cons, mkRows, tot, List.drop_succ_cons, List.cons_append, List.set_cons_succ, ← Nat.add_assoc, this]
theorem mkRows_at : ∀ (rs : List (List Int)) (k i : Nat) (r : List Int), rs[i]? = some r → (mkRows k rs)[i]? = some (marks (k + tot (rs.take i)) r.length) := by
  intro rs
  induction rs with
  | nil => intro k i r h; simp at h
  | cons r0 rs ih =>
    intro k i r h
    cases i with
    | zero => simp at h; subst h; simp [mkRows, tot]
    | succ i =>
      simp only [List.getElem?_cons_succ] at h
      have := ih (k + r0.length) i r h
      simp only [mkRows, List.getElem?_cons_succ, this, List.take_succ_cons, tot, ← Nat.add_assoc]
theorem tot_step : ∀ (rs : List (List Int)) (i : Nat) (r : List Int), rs[i]? = some r → tot (rs.take (i + 1)) = tot (rs.take i) + r.length := by
  intro rs
  induction rs with
  | nil => intro i r h; simp at h
  | cons r0 rs ih =>
    intro i r h
    cases i with
    | zero => simp at h; subst h; simp [tot]
    | succ i =>
      simp only [List.getElem?_cons_succ] at h
      have := ih i r h
      simp only [List.take_succ_cons, tot, this]; omega
theorem tot_le : ∀ (rs : List (List Int)) (i : Nat), tot (rs.take i) ≤ tot rs := by
  intro rs
  induction rs with
  | nil => intro i; simp [tot]
  | cons r0 rs ih =>
    intro i
    cases i with
    | zero => simp [tot]
    | succ i => have := ih i; simp only [List.take_succ_cons, tot]; omega
theorem tot_row {rs : List (List Int)} {i : Nat} {r : List Int} (h : rs[i]? = some r) : tot (rs.take i) + r.length ≤ tot rs := by
  rw [← tot_step rs i r h]; exact tot_le rs (i + 1)

/-- One row of a grid is written over. -/
theorem Grid.mark {w : World} {base M i : Nat} {v : Value} {rows : List (List Int)} {row : List Int} (h : Grid w base M v rows) (hi : rows[i]? = some row) :
    ∃ b c Ai ci, v = .slice (some ⟨b, 0, none⟩) rows.length c ∧ w.cell? ⟨b, i, none⟩ = some (.slice Ai row.length ci) ∧ w.ownsRow base 2 1 (.slice Ai row.length ci) row.length (ints row) ∧
      ∀ w' row', row'.length = row.length → w.grownBy w' (Value.slice Ai row.length ci).ownBlock → w'.ownsRow base 2 1 (.slice Ai row.length ci) row.length (ints row') → Grid w' base M v (rows.set i row') ∧ Below base w w' := by
  obtain ⟨vs, h1, h2, h3, h4⟩ := h
  have hil : i < rows.length := (List.getElem?_eq_some_iff.1 hi).1
  have hu : vs[i]? = some (vs[i]'(by omega)) := List.getElem?_eq_getElem (by omega)
  generalize vs[i]'(by omega) = u at hu
  obtain ⟨ho, hlt⟩ := h3 i u row hu hi
  obtain ⟨Ai, ci, rfl⟩ := own_form ho
  rcases h2.2 with ⟨_, h0⟩ | ⟨g, cap, cur, rfl, hg, hh, r⟩
  · omega
  · refine ⟨g, cap, Ai, ci, rfl, (h2.cellAt i (by omega)).trans hu, ho, fun w' row' hl hgr ho' => ⟨⟨vs, by rw [List.length_set]; exact h1, ?_, fun j x r a b => ?_, h4⟩, ?_⟩⟩
    · rw [List.length_set]; exact own_types h2 ho (by decide) hgr
    · by_cases hij : i = j
      · subst hij
        rw [List.getElem?_set_self hil] at b
        obtain rfl : row' = r := Option.some.inj b
        rw [hu] at a
        obtain rfl := Option.some.inj a
        rw [hl]
        exact ⟨ho', hlt⟩
      · rw [List.getElem?_set_ne hij] at b
        refine ⟨(h3 j x r a b).1.kept hgr ?_, (h3 j x r a b).2⟩
        cases hb : x.ownBlock with
        | none => exact .inl rfl
        | some q =>
          refine .inr fun e => ?_
          obtain ⟨hj, ej⟩ := List.getElem?_eq_some_iff.1 a
          obtain ⟨hi2, ei⟩ := List.getElem?_eq_some_iff.1 hu
          rcases Nat.lt_or_gt_of_ne hij with k | k
          · have := List.pairwise_iff_getElem.1 h4 i j hi2 hj k
            rw [ei, ej] at this
            have := this q q e.symm hb
            omega
          · have := List.pairwise_iff_getElem.1 h4 j i hj hi2 k
            rw [ei, ej] at this
            have := this q q hb e.symm
            omega
    · exact ⟨hgr.os, hgr.tape, hgr.output, hgr.size, fun k hk => by
        rcases Nat.lt_or_ge k w.heap.size with hkw | hkw
        · exact hgr.block k hkw fun e => by have := (ho.lt k e.symm).1; omega
        · have := h2.lt g rfl; omega⟩
theorem Grid.loM {w w' : World} {B base M : Nat} {v : Value} {rows : List (List Int)} (h : Grid w base M v rows) (hM : ∀ g, v.ownBlock = some g → g < M) (hb : Below B w w') (hB : M ≤ B) : Grid w' base M v rows := by
  obtain ⟨vs, h1, h2, h3, h4⟩ := h
  refine ⟨vs, h1, own_lo h2 hb (fun g hg => ?_), fun j u row a b => ⟨own_lo (h3 j u row a b).1 hb (fun g hg => ?_), (h3 j u row a b).2⟩, h4⟩
  · have := hM g hg; omega
  · have := (h3 j u row a b).2 g hg; omega
end Go.Proofs.Ytlbhfjbbkkkldaa
