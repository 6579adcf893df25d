/- Contracts of the index of a state: a map of indices, and a search by halves. -/
import Derived.Test.YtlbhfjbbkkkldaaG
import Derived.Test.YtlbhfjbbkkkldaaB
import Derived.Maps.OwnOps
import Derived.Maps.Views
import Derived.Deep.RegionHeld3
import Derived.Deep.DeepCutAuto
namespace Go.Proofs.Ytlbhfjbbkkkldaa
open Go.RowKit Go.Maps
set_option linter.unusedVariables false

theorem rise_lt {xs : List Int} (h : xs.Pairwise (· < ·)) {i j : Nat} {x y : Int} (hx : xs[i]? = some x) (hy : xs[j]? = some y) (hij : i < j) : x < y := by
  obtain ⟨hi, ei⟩ := List.getElem?_eq_some_iff.1 hx
  obtain ⟨hj, ej⟩ := List.getElem?_eq_some_iff.1 hy
  have := List.pairwise_iff_getElem.1 h i j hi hj hij
  rw [ei, ej] at this
  exact this
theorem rise_le {xs : List Int} (h : xs.Pairwise (· < ·)) {i j : Nat} {x y : Int} (hx : xs[i]? = some x) (hy : xs[j]? = some y) : (x < y ↔ i < j) := by
  constructor
  · intro k
    apply Classical.byContradiction
    intro hn
    rcases Nat.lt_or_eq_of_le (Nat.le_of_not_lt hn) with e | e
    · have := rise_lt h hy hx e; omega
    · subst e; rw [hx] at hy; have := Option.some.inj hy; omega
  · exact rise_lt h hx hy
theorem l09Find_any (A : Option Addr) (n c : Nat) (xs : List Int) (m : Int) (j : Nat) (w : World) (hn : n ≤ 1099511627776) (hx : xs.Pairwise (· < ·)) (hj : xs[j]? = some m) (hr : Rd w w.heap.size 1 A n (ints xs)) :
    Calls Try.prog 205 #[.slice A n c, .int .i64 m] w fun e w' => e = .returned (.int .i64 j) ∧ w = w' := by
  have hlen := hr.len
  have hjn : j < n := by have := (List.getElem?_eq_some_iff.1 hj).1; omega
  have hcmp := hid (fun (i : Nat) (x : Int) (hi : xs[i]? = some x) => rise_le hx hi hj)
  have hrr := hid hr
  clear hx hj hr hlen
  go_enter Try.func205, Try.ntmps205
  go_wp2
  go_loop [5, 6] (fun l h => ∃ (lo hi : Nat), l = .int .i64 lo ∧ h = .int .i64 hi ∧ lo ≤ j ∧ j ≤ hi ∧ hi < n) (fun l h => (intOf h - intOf l).toNat)
  case atStart => exact ⟨0, n - 1, rfl, by (have e : ((n - 1 : Nat) : Int) = (n : Int) - 1 := by omega); rw [e], Nat.zero_le _, by omega, by omega⟩
  case round =>
    obtain ⟨lo, hi, rfl, rfl, h1, h2, h3⟩ := hrel
    by_cases hlt : lo < hi
    · have hmid : (((lo + hi) / 2 : Nat) : Int) = ((lo : Int) + (hi : Int)) / 2 := by omega
      have hm1 : (lo + hi) / 2 < hi := by omega
      have hm2 : lo ≤ (lo + hi) / 2 := by omega
      obtain ⟨b, off, x, rfl, _, hxm, _, hc⟩ := hrr.out.at_ (i := (lo + hi) / 2) (by omega)
      have hcm := hcmp.out _ x hxm
      have HM := hid hmid
      by_cases hxl : x < m
      · have hmj := hcm.1 hxl
        clear hxm hcm hmid
        go_wp2
        go_round
        case rel => exact ⟨(lo + hi) / 2 + 1, hi, by go_num, rfl, hmj, h2, h3⟩
        case measure => simp [intOf]; omega
      · have hmj : j ≤ (lo + hi) / 2 := by
          apply Classical.byContradiction
          intro hn2
          exact hxl (hcm.2 (by omega))
        clear hxm hcm hmid
        go_wp2
        go_round
        case rel => exact ⟨lo, (lo + hi) / 2, rfl, by go_num, h1, hmj, by omega⟩
        case measure => simp [intOf]; omega
    · have : lo = j := by omega
      subst this
      go_wp2
      go_ret
      exact ⟨rfl, rfl⟩
theorem lawI : Keyed Try.prog 2 := int_keyed Try.underlying2
theorem zeroI (w : World) : (zeroValue 2).run Try.prog w = .ok (.int .i64 0) w := by kernel_rfl
/-- The map tells the index of each of the first k numbers. -/
def IdxOk (D : DataW Unit) (xs : List Int) (k : Nat) : Prop := IsMap D ∧ ∀ (j : Nat) (x : Int), j < k → xs[j]? = some x → D.atKey (.int .i64 x) (.lit (.int .i64 0)) = .lit (.int .i64 (j : Int))
theorem IdxOk.step {D : DataW Unit} {xs : List Int} {k : Nat} {x : Int} (h : IdxOk D xs k) (hx : xs[k]? = some x) (hr : xs.Pairwise (· < ·)) : IdxOk (D.put (.int .i64 x) (.lit (.int .i64 (k : Int)))) xs (k + 1) := by
  refine ⟨h.1.put _ _, fun j y hj hy => ?_⟩
  rcases Nat.lt_or_eq_of_le (Nat.le_of_lt_succ hj) with e | rfl
  · have hlt := rise_lt hr hy hx e
    rw [atKey_put_other (fun e2 => by injection e2 with _ e2; omega)]
    exact h.2 j y e hy
  · rw [hx] at hy
    obtain rfl := Option.some.inj hy
    exact atKey_put_same h.1 (show WideAt.IsKeyLit (.int .i64 x) from trivial) _ _
theorem below_undrew {B : Nat} {w w' : World} (h : Below B w.drew w') : Below B w w' := ⟨h.os, h.tape, h.output, h.size, h.block⟩
/-- The place of a number in a list. -/
def pos (m : Int) : List Int → Nat
  | [] => 0
  | x :: xs => if x = m then 0 else pos m xs + 1
theorem pos_at {m : Int} : ∀ {xs : List Int}, m ∈ xs → xs[pos m xs]? = some m := by
  intro xs
  induction xs with
  | nil => intro h; cases h
  | cons x xs ih =>
    intro h
    by_cases e : x = m
    · subst e; simp [pos]
    · rcases List.mem_cons.1 h with h | h
      · exact absurd h.symm e
      · simpa [pos, e] using ih h
def rStateIndex (h m : Int) : Int × Int := if stOk h m then (((pos m (msks (popc h.toNat m) h) : Nat) : Int), 0) else (0, 1)
theorem msks_facts {h m : Int} (k : stOk h m = true) : (msks (popc h.toNat m) h).Pairwise (· < ·) ∧ (msks (popc h.toNat m) h)[pos m (msks (popc h.toNat m) h)]? = some m ∧ ∀ x ∈ msks (popc h.toNat m) h, 0 ≤ x ∧ x ≤ 1023 := by
  obtain ⟨k1, k2, k3, k4, k5⟩ := stOk_iff k
  have h1024 := pow_le10 k1 k2
  refine ⟨mskL_rises _ _ _ _, pos_at (mskL_all _ _ _ _ _ k3 ?_ rfl), fun x hx => ?_⟩
  · have : ((2 ^ h.toNat : Nat) : Int) = 2 ^ h.toNat := by simp
    omega
  · have := mskL_mem _ _ _ _ _ hx
    omega

end Go.Proofs.Ytlbhfjbbkkkldaa
