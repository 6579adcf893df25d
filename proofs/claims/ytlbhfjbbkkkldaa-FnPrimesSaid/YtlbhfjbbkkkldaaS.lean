/- Plain facts on lists of throws: nothing of the program is named here. -/
import Derived.Test.YtlbhfjbbkkkldaaKit
namespace Go.Proofs.Ytlbhfjbbkkkldaa
open Go.RowKit
set_option linter.unusedVariables false

/-- A list of throws. -/
def thOk (p : List Int) : Bool := p.all (betweenB · 0 15) && betweenB p.length 1 12
theorem thOk_iff {p : List Int} (k : thOk p = true) : (∀ x ∈ p, 0 ≤ x ∧ x ≤ 15) ∧ 1 ≤ p.length ∧ p.length ≤ 12 := by
  simp only [thOk, betweenB, Bool.and_eq_true, List.all_eq_true, decide_eq_true_eq] at k
  exact ⟨k.1, by omega, by omega⟩
theorem thOk_mk {p : List Int} (h : ∀ x ∈ p, 0 ≤ x ∧ x ≤ 15) (h1 : 1 ≤ p.length) (h2 : p.length ≤ 12) : thOk p = true := by
  simp only [thOk, betweenB, Bool.and_eq_true, List.all_eq_true, decide_eq_true_eq]
  exact ⟨h, by omega, by omega⟩

/-- The landings from the beat i on, modulo n. -/
def lndF (n : Int) : Int → List Int → List Int
  | _, [] => []
  | i, t :: ts => (i + t) % n :: lndF n (i + 1) ts
def lnd (p : List Int) : List Int := lndF p.length 0 p
theorem lndF_len (n : Int) : ∀ (p : List Int) (i : Int), (lndF n i p).length = p.length := by
  intro p
  induction p with
  | nil => intro i; rfl
  | cons t ts ih => intro i; simp [lndF, ih]
theorem lnd_len (p : List Int) : (lnd p).length = p.length := lndF_len _ _ _
theorem lndF_at (n : Int) : ∀ (p : List Int) (i : Int) (j : Nat) (x : Int), p[j]? = some x → (lndF n i p)[j]? = some ((i + (j : Int) + x) % n) := by
  intro p
  induction p with
  | nil => intro i j x h; simp at h
  | cons t ts ih =>
    intro i j x h
    cases j with
    | zero => simp at h; subst h; simp [lndF]
    | succ j =>
      simp only [List.getElem?_cons_succ] at h
      simp only [lndF, List.getElem?_cons_succ]
      rw [ih (i + 1) j x h]
      congr 2; omega
/-- Where the throw at the beat j lands. -/
def Ld (p : List Int) (j : Nat) : Int := ((j : Int) + p.getD j 0) % (p.length : Int)
theorem lnd_at (p : List Int) (j : Nat) (h : j < p.length) : (lnd p)[j]? = some (Ld p j) := by
  have hx : p[j]? = some p[j] := List.getElem?_eq_getElem h
  rw [lnd, lndF_at _ _ _ _ _ hx, Ld, List.getD_eq_getElem?_getD, hx]
  simp

/-- The least i from i on, below k, of which L says the same as of k; f numbers are looked at. -/
def col1 (L : Nat → Int) (k : Nat) : Nat → Nat → Option Nat
  | 0, _ => none
  | f + 1, i => if L i = L k then some i else col1 L k f (i + 1)
theorem col1_none {L : Nat → Int} {k : Nat} : ∀ {f i : Nat}, col1 L k f i = none → ∀ j, i ≤ j → j < i + f → L j ≠ L k := by
  intro f
  induction f with
  | zero => intro i _ j a b; omega
  | succ f ih =>
    intro i h j a b
    simp only [col1] at h
    split at h
    · cases h
    · rename_i e
      rcases Nat.lt_or_eq_of_le a with a | rfl
      · exact ih h j a (by omega)
      · exact e
theorem col1_some {L : Nat → Int} {k : Nat} : ∀ {f i r : Nat}, col1 L k f i = some r → i ≤ r ∧ r < i + f ∧ L r = L k := by
  intro f
  induction f with
  | zero => intro i r h; cases h
  | succ f ih =>
    intro i r h
    simp only [col1] at h
    split at h
    · cases h; rename_i e; exact ⟨by omega, by omega, e⟩
    · have := ih h; exact ⟨by omega, by omega, this.2.2⟩
/-- The first two numbers of which L says the same. -/
def col2 (L : Nat → Int) : Nat → Nat → Option (Nat × Nat)
  | 0, _ => none
  | f + 1, k => match col1 L k k 0 with
    | some i => some (i, k)
    | none => col2 L f (k + 1)
theorem col2_some1 {L : Nat → Int} {f k i : Nat} (h : col1 L k k 0 = some i) : col2 L (f + 1) k = some (i, k) := by simp [col2, h]
theorem col2_none1 {L : Nat → Int} {f k : Nat} (h : col1 L k k 0 = none) : col2 L (f + 1) k = col2 L f (k + 1) := by simp [col2, h]
theorem col2_none {L : Nat → Int} : ∀ {f k : Nat}, col2 L f k = none → ∀ b, k ≤ b → b < k + f → ∀ a, a < b → L a ≠ L b := by
  intro f
  induction f with
  | zero => intro k _ b c d; omega
  | succ f ih =>
    intro k h b c d a hab
    cases h1 : col1 L k k 0 with
    | some i => rw [col2_some1 h1] at h; cases h
    | none =>
      rw [col2_none1 h1] at h
      rcases Nat.lt_or_eq_of_le c with c | rfl
      · exact ih h b c (by omega) a hab
      · exact col1_none h1 a (by omega) (by omega)
theorem col2_some {L : Nat → Int} : ∀ {f k a b : Nat}, col2 L f k = some (a, b) → a < b ∧ k ≤ b ∧ b < k + f ∧ L a = L b := by
  intro f
  induction f with
  | zero => intro k a b h; cases h
  | succ f ih =>
    intro k a b h
    cases h1 : col1 L k k 0 with
    | some i =>
      rw [col2_some1 h1] at h
      cases h
      have := col1_some h1
      exact ⟨by omega, by omega, by omega, this.2.2⟩
    | none =>
      rw [col2_none1 h1] at h
      have := ih h
      exact ⟨this.1, by omega, by omega, this.2.2.2⟩
/-- The first two throws of a list that collide. -/
def colP (p : List Int) : Option (Nat × Nat) := col2 (Ld p) p.length 0
theorem colP_one (p : List Int) : colP p = col2 (Ld p) (p.length - 1) 1 := by
  unfold colP
  cases h : p.length with
  | zero => rfl
  | succ n => rw [col2_none1 rfl]; simp
/-- A pattern. -/
def okP (p : List Int) : Bool := thOk p && (colP p).isNone
theorem okP_th {p : List Int} (h : okP p = true) : thOk p = true := by simp only [okP, Bool.and_eq_true] at h; exact h.1
theorem okP_ne {p : List Int} (h : okP p = true) {a b : Nat} (ha : a < p.length) (hb : b < p.length) (hab : a ≠ b) : Ld p a ≠ Ld p b := by
  simp only [okP, Bool.and_eq_true, Option.isNone_iff_eq_none] at h
  rcases Nat.lt_or_gt_of_ne hab with k | k
  · exact col2_none h.2 b (by omega) (by omega) a k
  · exact fun e => col2_none h.2 a (by omega) (by omega) b k e.symm
/-- What CollisionOf gives. -/
def colR : Option (Nat × Nat) → Int × Int × Int
  | some (i, k) => ((i : Int), (k : Int), 9)
  | none => (-1, -1, 0)
def rCollisionOf (p : List Int) : Int × Int × Int := if thOk p then colR (colP p) else (0, 0, 1)
theorem okP_code (p : List Int) : okP p = ((rCollisionOf p).2.2 == 0) := by
  unfold okP rCollisionOf
  cases h : thOk p with
  | false => rfl
  | true =>
    simp only [if_true, Bool.true_and]
    cases hc : colP p with
    | none => rfl
    | some x => obtain ⟨a, b⟩ := x; rfl
end Go.Proofs.Ytlbhfjbbkkkldaa
