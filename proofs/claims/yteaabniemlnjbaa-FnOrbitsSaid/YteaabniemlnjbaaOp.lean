/- Plain facts on orbits: nothing of the program is named here. -/
import Derived.Test.YteaabniemlnjbaaO
namespace Go.Proofs.Yteaabniemlnjbaa
open Go.RowKit
set_option linter.unusedVariables false

theorem nodup_len {n : Nat} {s : List Nat} (h : s.Nodup) (hb : ∀ x ∈ s, x < n) : s.length ≤ n := by
  refine pigeon n s.length (fun i => s.getD i 0) (fun i hi => ?_) (fun i j hi hj hne e => ?_)
  · show s.getD i 0 < n
    rw [List.getD_eq_getElem?_getD, List.getElem?_eq_getElem hi]
    exact hb _ (List.getElem_mem hi)
  · have e : s.getD i 0 = s.getD j 0 := e
    rw [List.getD_eq_getElem?_getD, List.getD_eq_getElem?_getD, List.getElem?_eq_getElem hi, List.getElem?_eq_getElem hj] at e
    exact hne ((List.getElem_inj h).1 e)
theorem nodup_lt {n k : Nat} {s : List Nat} (h : s.Nodup) (hb : ∀ x ∈ s, x < n) (hk : k < n) (hm : k ∉ s) : s.length < n := by
  have := nodup_len (n := n) (s := k :: s) (List.nodup_cons.2 ⟨hm, h⟩) (fun x hx => by
    rcases List.mem_cons.1 hx with rfl | hx
    · exact hk
    · exact hb x hx)
  rw [List.length_cons] at this; omega
/-- The beats from k on, each landing on the next, until one that was seen. -/
def trail (L : Nat → Nat) : Nat → Nat → List Nat → List Nat
  | 0, _, _ => []
  | f + 1, k, s => if k ∈ s then [] else k :: trail L f (L k) (k :: s)
theorem trail_in {L : Nat → Nat} {f k : Nat} {s : List Nat} (h : k ∈ s) : trail L f k s = [] := by
  cases f with
  | zero => rfl
  | succ f => simp [trail, h]
theorem trail_out {L : Nat → Nat} {f k : Nat} {s : List Nat} (h : k ∉ s) : trail L (f + 1) k s = k :: trail L f (L k) (k :: s) := by simp [trail, h]
/-- The orbits from the beat i on; f beats are looked at. -/
def orbF (L : Nat → Nat) (n : Nat) : Nat → Nat → List Nat → List (List Nat)
  | 0, _, _ => []
  | f + 1, i, s => if i ∈ s then orbF L n f (i + 1) s else trail L (n - s.length) i s :: orbF L n f (i + 1) ((trail L (n - s.length) i s).reverse ++ s)
theorem orbF_in {L : Nat → Nat} {n f i : Nat} {s : List Nat} (h : i ∈ s) : orbF L n (f + 1) i s = orbF L n f (i + 1) s := by simp [orbF, h]
theorem orbF_out {L : Nat → Nat} {n f i : Nat} {s : List Nat} (h : i ∉ s) : orbF L n (f + 1) i s = trail L (n - s.length) i s :: orbF L n f (i + 1) ((trail L (n - s.length) i s).reverse ++ s) := by simp [orbF, h]
theorem trail_ne {L : Nat → Nat} {n i : Nat} {s : List Nat} (hs : s.length < n) (h : i ∉ s) : trail L (n - s.length) i s ≠ [] := by
  obtain ⟨f, hf⟩ : ∃ f, n - s.length = f + 1 := ⟨n - s.length - 1, by omega⟩
  rw [hf, trail_out h]; simp
theorem orbF_nil {L : Nat → Nat} {n f i : Nat} {s : List Nat} (hs : s.Nodup) (hb : ∀ x ∈ s, x < n) (hi : i < n) (h : trail L (n - s.length) i s = []) : orbF L n (f + 1) i s = orbF L n f (i + 1) s := by
  by_cases hm : i ∈ s
  · exact orbF_in hm
  · exact absurd h (trail_ne (nodup_lt hs hb hi hm) hm)
theorem orbF_cons {L : Nat → Nat} {n f i : Nat} {s o : List Nat} (h : trail L (n - s.length) i s = o) (ho : o ≠ []) : orbF L n (f + 1) i s = o :: orbF L n f (i + 1) (o.reverse ++ s) := by
  by_cases hm : i ∈ s
  · rw [trail_in hm] at h; exact absurd h.symm ho
  · rw [orbF_out hm, h]
theorem orbF_len {L : Nat → Nat} {n : Nat} : ∀ (f i : Nat) (s : List Nat), (orbF L n f i s).length ≤ f := by
  intro f
  induction f with
  | zero => intro i s; simp [orbF]
  | succ f ih =>
    intro i s
    by_cases h : i ∈ s
    · rw [orbF_in h]; have := ih (i + 1) s; omega
    · rw [orbF_out h]; simp only [List.length_cons]; have := ih (i + 1) ((trail L (n - s.length) i s).reverse ++ s); omega
/-- Where the throw at a beat lands. -/
def Lp (p : List Int) (k : Nat) : Nat := (Ld p k).toNat
theorem Lp_int {p : List Int} {k : Nat} (h : 1 ≤ p.length) : ((Lp p k : Nat) : Int) = Ld p k := by
  have := Ld_range (p := p) (j := k) h
  rw [Lp, Int.toNat_of_nonneg this.1]
theorem Lp_lt {p : List Int} {k : Nat} (h : 1 ≤ p.length) : Lp p k < p.length := by
  have := Ld_range (p := p) (j := k) h
  have := Lp_int (p := p) (k := k) h
  omega
def natI (l : List Nat) : List Int := l.map fun k => ((k : Nat) : Int)
theorem natI_len (l : List Nat) : (natI l).length = l.length := by simp [natI]
theorem natI_snoc (l : List Nat) (k : Nat) : natI (l ++ [k]) = natI l ++ [(k : Int)] := by simp [natI]
/-- The orbits of a pattern. -/
def orbN (p : List Int) : List (List Nat) := orbF (Lp p) p.length p.length 0 []
def orbs (p : List Int) : List (List Int) := (orbN p).map natI
theorem orbs_len (p : List Int) : (orbs p).length ≤ p.length := by rw [orbs, List.length_map]; exact orbF_len _ _ _

/-- What is known of the beats that were seen. -/
def SeenOk (n : Nat) (s : List Nat) : Prop := s.Nodup ∧ ∀ x ∈ s, x < n
theorem SeenOk.cons {n k : Nat} {s : List Nat} (h : SeenOk n s) (hk : k < n) (hm : k ∉ s) : SeenOk n (k :: s) :=
  ⟨List.nodup_cons.2 ⟨hm, h.1⟩, fun x hx => by
    rcases List.mem_cons.1 hx with rfl | hx
    · exact hk
    · exact h.2 x hx⟩
/-- Whether each of n beats was seen, as cells. -/
def bools (n : Nat) (s : List Nat) : List Value := (List.range n).map fun i => .bool (decide (i ∈ s))
theorem bools_len (n : Nat) (s : List Nat) : (bools n s).length = n := by simp [bools]
theorem bools_nil (n : Nat) : List.replicate n (Value.bool false) = bools n [] := by
  apply List.ext_getElem?
  intro i
  rw [List.getElem?_replicate, bools, List.getElem?_map]
  by_cases h : i < n
  · rw [List.getElem?_range h]; simp [h]
  · rw [List.getElem?_eq_none (by simp; omega)]; simp [h]
theorem bools_at {n k : Nat} {s : List Nat} (h : k < n) : (bools n s)[k]? = some (.bool (decide (k ∈ s))) := by
  rw [bools, List.getElem?_map, List.getElem?_range h]; rfl
theorem bools_set {n k : Nat} {s : List Nat} (h : k < n) : (bools n s).set k (.bool true) = bools n (k :: s) := by
  apply List.ext_getElem?
  intro i
  rw [List.getElem?_set, bools_len]
  by_cases hi : i < n
  · by_cases e : k = i
    · subst e; rw [if_pos rfl, if_pos h, bools_at h]; simp
    · rw [if_neg e, bools_at hi, bools_at hi]
      have : ¬ i = k := fun e2 => e e2.symm
      simp [this]
  · have e : k ≠ i := by omega
    rw [if_neg e, List.getElem?_eq_none (by rw [bools_len]; omega), List.getElem?_eq_none (by rw [bools_len]; omega)]
end Go.Proofs.Yteaabniemlnjbaa
