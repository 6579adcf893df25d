/- Plain facts: which beats the orbits of a pattern hold. Nothing of the program is named here. -/
import Derived.Test.YteaabniemlnjbaaOp
namespace Go.Proofs.Yteaabniemlnjbaa
open Go.RowKit
set_option linter.unusedVariables false

theorem trail_ok {L : Nat → Nat} {n : Nat} (hL : ∀ k, L k < n) : ∀ (f k : Nat) (s : List Nat), SeenOk n s → k < n → SeenOk n ((trail L f k s).reverse ++ s) ∧ ∀ x ∈ trail L f k s, x < n := by
  intro f
  induction f with
  | zero => intro k s h hk; exact ⟨h, fun x hx => by cases hx⟩
  | succ f ih =>
    intro k s h hk
    by_cases hm : k ∈ s
    · rw [trail_in hm]; exact ⟨h, fun x hx => by cases hx⟩
    · rw [trail_out hm]
      obtain ⟨h1, h2⟩ := ih (L k) (k :: s) (h.cons hk hm) (hL k)
      refine ⟨by simpa using h1, fun x hx => ?_⟩
      rcases List.mem_cons.1 hx with rfl | hx
      · exact hk
      · exact h2 x hx
theorem orbF_bd {L : Nat → Nat} {n : Nat} (hL : ∀ k, L k < n) : ∀ (f i : Nat) (s : List Nat), SeenOk n s → i + f ≤ n → ∀ row ∈ orbF L n f i s, ∀ x ∈ row, x < n := by
  intro f
  induction f with
  | zero => intro i s _ _ row hr; cases hr
  | succ f ih =>
    intro i s hs hi row hr
    by_cases hm : i ∈ s
    · rw [orbF_in hm] at hr; exact ih _ _ hs (by omega) row hr
    · rw [orbF_out hm] at hr
      obtain ⟨h1, h2⟩ := trail_ok hL (n - s.length) i s hs (by omega)
      rcases List.mem_cons.1 hr with rfl | hr
      · exact h2
      · exact ih _ _ h1 (by omega) row hr
theorem orbF_cover {L : Nat → Nat} {n : Nat} (hL : ∀ k, L k < n) : ∀ (f i : Nat) (s : List Nat), SeenOk n s → i + f ≤ n → ∀ x, i ≤ x → x < i + f → x ∈ s ∨ ∃ row ∈ orbF L n f i s, x ∈ row := by
  intro f
  induction f with
  | zero => intro i s _ _ x a b; omega
  | succ f ih =>
    intro i s hs hi x a b
    by_cases hm : i ∈ s
    · rw [orbF_in hm]
      rcases Nat.lt_or_eq_of_le a with a | rfl
      · exact ih _ _ hs (by omega) x a (by omega)
      · exact .inl hm
    · rw [orbF_out hm]
      obtain ⟨h1, h2⟩ := trail_ok hL (n - s.length) i s hs (by omega)
      rcases Nat.lt_or_eq_of_le a with a | rfl
      · rcases ih _ _ h1 (by omega) x a (by omega) with h | ⟨row, hr, hx⟩
        · rcases List.mem_append.1 h with h | h
          · exact .inr ⟨_, List.mem_cons_self, by simpa using h⟩
          · exact .inl h
        · exact .inr ⟨row, List.mem_cons_of_mem _ hr, hx⟩
      · refine .inr ⟨_, List.mem_cons_self, ?_⟩
        obtain ⟨g, hg⟩ : ∃ g, n - s.length = g + 1 := ⟨n - s.length - 1, by have := nodup_lt hs.1 hs.2 (show i < n by omega) hm; omega⟩
        rw [hg, trail_out hm]
        exact List.mem_cons_self
theorem trail_len {L : Nat → Nat} : ∀ (f k : Nat) (s : List Nat), (trail L f k s).length ≤ f := by
  intro f
  induction f with
  | zero => intro k s; simp [trail]
  | succ f ih =>
    intro k s
    by_cases hm : k ∈ s
    · rw [trail_in hm]; simp
    · rw [trail_out hm]; have := ih (L k) (k :: s); simp only [List.length_cons]; omega
theorem orbF_row {L : Nat → Nat} {n : Nat} : ∀ (f i : Nat) (s : List Nat), ∀ row ∈ orbF L n f i s, row.length ≤ n := by
  intro f
  induction f with
  | zero => intro i s row hr; cases hr
  | succ f ih =>
    intro i s row hr
    by_cases hm : i ∈ s
    · rw [orbF_in hm] at hr; exact ih _ _ row hr
    · rw [orbF_out hm] at hr
      rcases List.mem_cons.1 hr with rfl | hr
      · have := trail_len (L := L) (n - s.length) i s; omega
      · exact ih _ _ row hr
theorem orbs_row {p : List Int} : ∀ row ∈ orbs p, row.length ≤ p.length := by
  intro row hrow
  obtain ⟨r, hr, rfl⟩ := List.mem_map.1 (show row ∈ (orbN p).map natI from hrow)
  rw [natI_len]; exact orbF_row _ _ _ r hr
theorem SeenOk.nil (n : Nat) : SeenOk n [] := ⟨List.nodup_nil, fun x h => by cases h⟩
theorem orbs_bd {p : List Int} (h : 1 ≤ p.length) : ∀ row ∈ orbs p, ∀ x ∈ row, 0 ≤ x ∧ x < p.length := by
  intro row hrow x hx
  obtain ⟨r, hr, rfl⟩ := List.mem_map.1 (show row ∈ (orbN p).map natI from hrow)
  obtain ⟨k, hk, rfl⟩ := List.mem_map.1 hx
  have := orbF_bd (fun k => Lp_lt (p := p) (k := k) h) p.length 0 [] (SeenOk.nil _) (by omega) r hr k hk
  omega
theorem orbs_cover {p : List Int} (h : 1 ≤ p.length) (x : Nat) (hx : x < p.length) : ∃ row ∈ orbs p, (x : Int) ∈ row := by
  rcases orbF_cover (fun k => Lp_lt (p := p) (k := k) h) p.length 0 [] (SeenOk.nil _) (by omega) x (by omega) (by omega) with h | ⟨row, hr, hx⟩
  · cases h
  · exact ⟨natI row, List.mem_map.2 ⟨row, hr, rfl⟩, List.mem_map.2 ⟨x, hx, rfl⟩⟩

/-- The first row that holds a number; the rows are counted from j on. -/
def frow (i : Int) : Nat → List (List Int) → Option Nat
  | _, [] => none
  | j, r :: rs => if i ∈ r then some j else frow i (j + 1) rs
theorem frow_yes {i : Int} {j : Nat} {r : List Int} {rs : List (List Int)} (h : i ∈ r) : frow i j (r :: rs) = some j := by simp [frow, h]
theorem frow_not {i : Int} {j : Nat} {r : List Int} {rs : List (List Int)} (h : i ∉ r) : frow i j (r :: rs) = frow i (j + 1) rs := by simp [frow, h]
theorem frow_some {i : Int} : ∀ (rs : List (List Int)) (j : Nat), (∃ r ∈ rs, i ∈ r) → ∃ k, frow i j rs = some k := by
  intro rs
  induction rs with
  | nil => intro j ⟨r, hr, _⟩; cases hr
  | cons r rs ih =>
    intro j ⟨r2, hr, hi⟩
    by_cases h : i ∈ r
    · exact ⟨j, frow_yes h⟩
    · rw [frow_not h]
      rcases List.mem_cons.1 hr with rfl | hr
      · exact absurd hi h
      · exact ih (j + 1) ⟨r2, hr, hi⟩
theorem frow_none {i : Int} : ∀ (rs : List (List Int)) (j : Nat), (∀ r ∈ rs, i ∉ r) → frow i j rs = none := by
  intro rs
  induction rs with
  | nil => intro j _; rfl
  | cons r rs ih =>
    intro j h
    rw [frow_not (h r List.mem_cons_self)]
    exact ih _ fun r2 hr => h r2 (List.mem_cons_of_mem _ hr)
theorem betweenB_ix {i : Int} {n : Nat} : betweenB i 0 ((n : Int) - 1) = true ↔ 0 ≤ i ∧ i < n := by rw [betweenB_iff]; omega
/-- What OrbitOf gives. -/
def orC : Option Nat → Int × Int
  | some j => ((j : Int), 0)
  | none => (0, 2)
def rOrbitOf (p : List Int) (i : Int) : Int × Int := if okP p then orC (frow i 0 (orbs p)) else (0, 1)
theorem orb_in {p : List Int} {i : Int} (h : 1 ≤ p.length) (hi : betweenB i 0 ((p.length : Int) - 1) = true) : ∃ k, frow i 0 (orbs p) = some k := by
  obtain ⟨a, b⟩ := betweenB_ix.1 hi
  obtain ⟨row, hr, hx⟩ := orbs_cover h i.toNat (by omega)
  rw [Int.toNat_of_nonneg a] at hx
  exact frow_some _ _ ⟨row, hr, hx⟩
theorem orb_out {p : List Int} {i : Int} (h : 1 ≤ p.length) (hi : betweenB i 0 ((p.length : Int) - 1) = false) : frow i 0 (orbs p) = none := by
  refine frow_none _ _ fun r hr hx => ?_
  have := orbs_bd h r hr i hx
  have : betweenB i 0 ((p.length : Int) - 1) = true := betweenB_ix.2 this
  rw [this] at hi; cases hi
end Go.Proofs.Yteaabniemlnjbaa
