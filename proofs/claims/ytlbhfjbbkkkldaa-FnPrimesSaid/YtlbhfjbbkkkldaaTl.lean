/- Plain facts: texts as lists of bytes, cuts and parts. Nothing of the program is named here. -/
import Derived.Test.YtlbhfjbbkkkldaaKit
namespace Go.Proofs.Ytlbhfjbbkkkldaa
open Go.RowKit
set_option linter.unusedVariables false

/-- The bytes of a text. -/
def tl (s : ByteArray) : List UInt8 := s.data.toList
/-- The text of bytes. -/
def st (l : List UInt8) : ByteArray := ⟨l.toArray⟩
theorem tl_st (l : List UInt8) : tl (st l) = l := by simp [tl, st]
theorem st_tl (s : ByteArray) : st (tl s) = s := by obtain ⟨d⟩ := s; simp [tl, st]
theorem tl_len (s : ByteArray) : (tl s).length = s.size := by simp [tl]
theorem st_size (l : List UInt8) : (st l).size = l.length := by rw [← tl_len, tl_st]
theorem tl_inj {a b : ByteArray} (h : tl a = tl b) : a = b := by rw [← st_tl a, ← st_tl b, h]
theorem tl_append (a b : ByteArray) : tl (a ++ b) = tl a ++ tl b := by
  obtain ⟨a⟩ := a; obtain ⟨b⟩ := b
  rw [ByteArray.mk_append_mk]; simp [tl]
theorem st_append (a b : List UInt8) : st a ++ st b = st (a ++ b) := tl_inj (by rw [tl_append, tl_st, tl_st, tl_st])
theorem tl_extract (s : ByteArray) (a b : Nat) : tl (s.extract a b) = ((tl s).take b).drop a := by
  unfold tl
  rw [ByteArray.data_extract, Array.toList_extract, List.extract_eq_take_drop, List.drop_take]
theorem tl_at (s : ByteArray) (k : Nat) (h : k < s.size) : (tl s)[k]? = some s[k] := by
  rw [List.getElem?_eq_getElem (by rw [tl_len]; exact h)]; rfl
theorem tl_drop (s : ByteArray) (k : Nat) (h : k < s.size) : (tl s).drop k = s[k] :: (tl s).drop (k + 1) := by
  rw [List.drop_eq_getElem_cons (by rw [tl_len]; exact h)]; rfl
theorem tl_empty {s : ByteArray} : s.toList.isEmpty = decide (tl s = []) := by
  rw [ByteArray.toList_eq]
  show (tl s).isEmpty = _
  cases tl s <;> simp

/-- What stands in front of the first place of a byte, what behind it, and whether there is one. -/
def cutL (c : UInt8) : List UInt8 → List UInt8 × List UInt8 × Bool
  | [] => ([], [], false)
  | x :: r => if x = c then ([], r, true) else (x :: (cutL c r).1, (cutL c r).2.1, (cutL c r).2.2)
theorem cutL_yes {c : UInt8} : ∀ {a : List UInt8} (b : List UInt8), c ∉ a → cutL c (a ++ c :: b) = (a, b, true) := by
  intro a
  induction a with
  | nil => intro b _; simp [cutL]
  | cons x a ih =>
    intro b h
    rw [List.mem_cons, not_or] at h
    rw [List.cons_append, cutL, if_neg (fun e => h.1 e.symm), ih b h.2]
theorem cutL_not {c : UInt8} : ∀ {a : List UInt8}, c ∉ a → cutL c a = (a, [], false) := by
  intro a
  induction a with
  | nil => intro _; rfl
  | cons x a ih =>
    intro h
    rw [List.mem_cons, not_or] at h
    rw [cutL, if_neg (fun e => h.1 e.symm), ih h.2]
theorem cutL_spec (c : UInt8) (l : List UInt8) : ((cutL c l).2.2 = true ∧ l = (cutL c l).1 ++ c :: (cutL c l).2.1 ∧ c ∉ (cutL c l).1) ∨ ((cutL c l).2.2 = false ∧ c ∉ l ∧ (cutL c l).1 = l ∧ (cutL c l).2.1 = []) := by
  induction l with
  | nil => right; exact ⟨rfl, by simp, rfl, rfl⟩
  | cons x r ih =>
    by_cases hx : x = c
    · subst hx
      left
      rw [cutL, if_pos rfl]
      exact ⟨rfl, rfl, by simp⟩
    · rw [cutL, if_neg hx]
      rcases ih with ⟨h1, h2, h3⟩ | ⟨h1, h2, h3, h4⟩
      · left
        refine ⟨h1, ?_, ?_⟩
        · rw [List.cons_append, ← h2]
        · rw [List.mem_cons, not_or]; exact ⟨fun e => hx e.symm, h3⟩
      · right
        refine ⟨h1, ?_, ?_, h4⟩
        · rw [List.mem_cons, not_or]; exact ⟨fun e => hx e.symm, h2⟩
        · rw [h3]
/-- The parts of a text between bytes. -/
def splitL (c : UInt8) : List UInt8 → List (List UInt8)
  | [] => [[]]
  | x :: r => if x = c then [] :: splitL c r else (match splitL c r with
    | p :: ps => (x :: p) :: ps
    | [] => [[x]])
theorem splitL_not {c : UInt8} : ∀ {a : List UInt8}, c ∉ a → splitL c a = [a] := by
  intro a
  induction a with
  | nil => intro _; rfl
  | cons x a ih =>
    intro h
    rw [List.mem_cons, not_or] at h
    rw [splitL, if_neg (fun e => h.1 e.symm), ih h.2]
theorem splitL_yes {c : UInt8} : ∀ {a : List UInt8} (b : List UInt8), c ∉ a → splitL c (a ++ c :: b) = a :: splitL c b := by
  intro a
  induction a with
  | nil => intro b _; simp [splitL]
  | cons x a ih =>
    intro b h
    rw [List.mem_cons, not_or] at h
    rw [List.cons_append, splitL, if_neg (fun e => h.1 e.symm), ih b h.2]
theorem splitL_cut (c : UInt8) (l : List UInt8) : splitL c l = if (cutL c l).2.2 then (cutL c l).1 :: splitL c (cutL c l).2.1 else [l] := by
  rcases cutL_spec c l with ⟨h1, h2, h3⟩ | ⟨h1, h2, h3, h4⟩
  · rw [if_pos h1]
    conv => lhs; rw [h2]
    rw [splitL_yes _ h3]
  · rw [if_neg (by rw [h1]; decide), splitL_not h2]
theorem splitL_ne (c : UInt8) (l : List UInt8) : 1 ≤ (splitL c l).length := by
  rw [splitL_cut]; split <;> simp
/-- Every part is no longer than the text; there are at most as many more. -/
theorem splitL_len (c : UInt8) : ∀ l : List UInt8, (splitL c l).length ≤ l.length + 1 ∧ ∀ p ∈ splitL c l, p.length ≤ l.length := by
  intro l
  induction l with
  | nil => simp [splitL]
  | cons x r ih =>
    rw [splitL]
    by_cases hx : x = c
    · rw [if_pos hx]
      refine ⟨by rw [List.length_cons, List.length_cons]; omega, fun p hp => ?_⟩
      rcases List.mem_cons.1 hp with rfl | h
      · simp
      · have := ih.2 p h; rw [List.length_cons]; omega
    · rw [if_neg hx]
      cases h : splitL c r with
      | nil => have := splitL_ne c r; rw [h] at this; simp at this
      | cons p ps =>
        rw [h] at ih
        simp only
        refine ⟨by have := ih.1; simp only [List.length_cons] at this ⊢; omega, fun q hq => ?_⟩
        rcases List.mem_cons.1 hq with rfl | h'
        · have := ih.2 p List.mem_cons_self; simp only [List.length_cons]; omega
        · have := ih.2 q (List.mem_cons_of_mem _ h'); rw [List.length_cons]; omega
end Go.Proofs.Ytlbhfjbbkkkldaa
