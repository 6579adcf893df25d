/- Plain facts: texts of multiplex patterns, read back. -/
import Derived.Test.YtlbhfjbbkkkldaaNs
import Derived.Test.YtlbhfjbbkkkldaaQs
namespace Go.Proofs.Ytlbhfjbbkkkldaa
open Go.RowKit
set_option linter.unusedVariables false

/-- The text of a beat. -/
def rowT (r : List Int) : List UInt8 := if 1 < r.length then 91 :: (r.map hexU ++ [93]) else r.map hexU
def mT (rows : List (List Int)) : List UInt8 := rows.flatMap rowT
theorem mT_cons (r : List Int) (rows : List (List Int)) : mT (r :: rows) = rowT r ++ mT rows := rfl
theorem mT_snoc (rows : List (List Int)) (r : List Int) : mT (rows ++ [r]) = mT rows ++ rowT r := by simp [mT]
theorem mT_step {rows : List (List Int)} {k : Nat} {r : List Int} (h : rows[k]? = some r) : mT (rows.take (k + 1)) = mT (rows.take k) ++ rowT r := by
  rw [List.take_add_one, h]; exact mT_snoc _ _
theorem rowT_len (r : List Int) : (rowT r).length ≤ r.length + 2 := by
  unfold rowT
  split
  · simp
  · simp
theorem mT_len : ∀ rows : List (List Int), (∀ r ∈ rows, r.length ≤ 4) → (mT rows).length ≤ 6 * rows.length := by
  intro rows
  induction rows with
  | nil => intro _; simp [mT]
  | cons r rows ih =>
    intro h
    have h1 := rowT_len r
    have h2 := h r (by simp)
    have h3 := ih (fun x hx => h x (by simp [hx]))
    rw [mT_cons, List.length_append, List.length_cons]; omega
def rMultiText (rows : List (List Int)) : List UInt8 := if mOk rows then mT rows else []
theorem mprs_in {l : List UInt8} : ∀ (q acc : List Int), (∀ t ∈ q, 0 ≤ t ∧ t ≤ 15) → mprs (some acc) (q.map hexU ++ 93 :: l) = if (acc ++ q).length < 2 then none else (mprs none l).map ((acc ++ q) :: ·) := by
  intro q
  induction q with
  | nil => intro acc _; rw [List.map_nil, List.nil_append, mprs, if_pos rfl, List.append_nil]
  | cons t q ih =>
    intro acc h
    obtain ⟨t0, t1⟩ := h t (by simp)
    have hne : hexU t ≠ 93 := hexU_ne t0 t1 (by decide)
    rw [List.map_cons, List.cons_append, mprs, if_neg hne, rDig_hexU t0 t1, ih _ (fun x hx => h x (by simp [hx])), List.append_assoc]; rfl
theorem mprs_row {r : List Int} (h : mstOk r = true) (l : List UInt8) : mprs none (rowT r ++ l) = (mprs none l).map (r :: ·) := by
  have h1 := (mstOk_iff.1 h).1
  have h2 : ∀ t ∈ r, 0 ≤ t ∧ t ≤ 15 := fun t ht => mstOk_bd h ht
  by_cases hl : 1 < r.length
  · rw [rowT, if_pos hl, List.cons_append, mprs, if_pos rfl, List.append_assoc, List.singleton_append, mprs_in r [] h2, List.nil_append, if_neg (by omega)]
  · obtain ⟨t, rfl⟩ : ∃ t, r = [t] := List.length_eq_one_iff.1 (by omega)
    obtain ⟨t0, t1⟩ := h2 t (by simp)
    have hne : hexU t ≠ 91 := hexU_ne t0 t1 (by decide)
    rw [rowT, if_neg hl, List.map_cons, List.map_nil, List.cons_append, List.nil_append, mprs, if_neg hne, rDig_hexU t0 t1]
theorem mprs_text : ∀ {rows : List (List Int)}, (∀ r ∈ rows, mstOk r = true) → mprs none (mT rows) = some rows := by
  intro rows
  induction rows with
  | nil => intro _; rfl
  | cons r rows ih =>
    intro h
    rw [mT_cons, mprs_row (h r (by simp)), ih (fun x hx => h x (by simp [hx]))]; rfl
theorem multi_there {rows : List (List Int)} (h : mOk rows = true) : rReadMulti (mT rows) = (rows, true) := by
  have hs := (mOk_iff.1 h).1
  rw [rReadMulti, rdM, mprs_text (msSh_iff.1 hs).2, mElse_shp, if_pos h]
theorem mprs_back : ∀ (s : List UInt8) (rows : List (List Int)), (∀ r ∈ rows, ∀ t ∈ r, 0 ≤ t) →
    (mprs none s = some rows → s = mT rows) ∧ (∀ l, mprs (some l) s = some rows → ∃ q rest, rows = (l ++ q) :: rest ∧ 1 < (l ++ q).length ∧ s = q.map hexU ++ 93 :: mT rest) := by
  intro s
  induction s with
  | nil =>
    intro rows hr
    refine ⟨fun h => ?_, fun l h => by cases h⟩
    injection h with h; subst h; rfl
  | cons c s ih =>
    intro rows hr
    refine ⟨fun h => ?_, fun l h => ?_⟩
    · rw [mprs] at h
      split at h
      · rename_i hc
        obtain ⟨q, rest, rfl, h2, h3⟩ := (ih rows hr).2 [] h
        rw [List.nil_append] at h2
        rw [List.nil_append, mT_cons, rowT, if_pos h2, hc, h3]; simp
      · rename_i hc
        rw [Option.map_eq_some_iff] at h
        obtain ⟨q, h1, rfl⟩ := h
        have h2 := (ih q (fun r h => hr r (by simp [h]))).1 h1
        have h3 := hr [rDig (c.toNat : Int)] (by simp) (rDig (c.toNat : Int)) (by simp)
        rw [mT_cons, rowT, if_neg (by simp), List.map_cons, List.map_nil, hexU_rDig c h3, ← h2]; rfl
    · rw [mprs] at h
      split at h
      · rename_i hc
        split at h
        · cases h
        · rename_i hl
          rw [Option.map_eq_some_iff] at h
          obtain ⟨q, h1, rfl⟩ := h
          have h2 := (ih q (fun r h => hr r (by simp [h]))).1 h1
          exact ⟨[], q, by simp, by simp; omega, by rw [hc, h2]; rfl⟩
      · rename_i hc
        obtain ⟨q, rest, h1, h2, h3⟩ := (ih rows hr).2 _ h
        have h4 := hr _ (by rw [h1]; exact List.mem_cons_self) (rDig (c.toNat : Int)) (by simp)
        refine ⟨rDig (c.toNat : Int) :: q, rest, by rw [h1, List.append_assoc]; rfl, by rw [List.append_assoc] at h2; exact h2, ?_⟩
        rw [List.map_cons, hexU_rDig c h4, h3]; rfl
theorem multi_back {s : List UInt8} {rows : List (List Int)} (h : rReadMulti s = (rows, true)) : mOk rows = true ∧ mT rows = s := by
  unfold rReadMulti rdM at h
  cases hp : mprs none s with
  | none => rw [hp] at h; cases h
  | some q =>
    rw [hp, mElse_shp] at h
    split at h
    · rename_i hq
      injection h with h _
      subst h
      have hb := (msSh_iff.1 (mOk_iff.1 hq).1).2
      exact ⟨hq, ((mprs_back s q (fun r hr t ht => (mstOk_bd (hb r hr) ht).1)).1 hp).symm⟩
    · injection h with _ h; cases h
theorem mT_ne {rows : List (List Int)} (h : mOk rows = true) : mT rows ≠ [] := by
  have hs := msSh_iff.1 (mOk_iff.1 h).1
  cases rows with
  | nil => have := hs.1.1; simp at this
  | cons r rows =>
    have h1 := (mstOk_iff.1 (hs.2 r (by simp))).1.1
    rw [mT_cons]
    intro e
    have := congrArg List.length e
    rw [List.length_append] at this
    have h2 : 1 ≤ (rowT r).length := by
      unfold rowT
      split
      · simp
      · simpa using h1
    rw [List.length_nil] at this
    omega
end Go.Proofs.Ytlbhfjbbkkkldaa
