/- Contracts of the functions that list the states. -/
import Derived.Test.YtlbhfjbbkkkldaaE
import Derived.Test.YtlbhfjbbkkkldaaPs
namespace Go.Proofs.Ytlbhfjbbkkkldaa
open Go.RowKit
set_option linter.unusedVariables false

/-- The masks from m on, f numbers are looked at, of which p of the lowest h bits are set. -/
def mskL (p : Int) (h : Nat) : Nat → Int → List Int
  | 0, _ => []
  | f + 1, m => if popc h m = p then m :: mskL p h f (m + 1) else mskL p h f (m + 1)
theorem mskL_yes {p : Int} {h f : Nat} {m : Int} (k : popc h m = p) : mskL p h (f + 1) m = m :: mskL p h f (m + 1) := by simp [mskL, k]
theorem mskL_not {p : Int} {h f : Nat} {m : Int} (k : popc h m ≠ p) : mskL p h (f + 1) m = mskL p h f (m + 1) := by simp [mskL, k]
theorem mskL_len (p : Int) (h : Nat) : ∀ f m, (mskL p h f m).length ≤ f := by
  intro f
  induction f with
  | zero => intro m; simp [mskL]
  | succ f ih => intro m; have := ih (m + 1); simp only [mskL]; split <;> simp <;> omega
theorem mskL_mem (p : Int) (h : Nat) : ∀ (f : Nat) m x, x ∈ mskL p h f m → m ≤ x ∧ x < m + (f : Int) ∧ popc h x = p := by
  intro f
  induction f with
  | zero => intro m x k; simp [mskL] at k
  | succ f ih =>
    intro m x k
    simp only [mskL] at k
    split at k
    · rename_i e
      rcases List.mem_cons.1 k with rfl | k
      · exact ⟨by omega, by omega, e⟩
      · have := ih _ _ k; exact ⟨by omega, by omega, this.2.2⟩
    · have := ih _ _ k; exact ⟨by omega, by omega, this.2.2⟩
theorem mskL_all (p : Int) (h : Nat) : ∀ (f : Nat) m x, m ≤ x → x < m + (f : Int) → popc h x = p → x ∈ mskL p h f m := by
  intro f
  induction f with
  | zero => intro m x a b; omega
  | succ f ih =>
    intro m x a b c
    simp only [mskL]
    split
    · rcases Int.lt_or_eq_of_le a with a | rfl
      · exact List.mem_cons_of_mem _ (ih _ _ (by omega) (by omega) c)
      · exact List.mem_cons_self
    · rcases Int.lt_or_eq_of_le a with a | rfl
      · exact ih _ _ (by omega) (by omega) c
      · rename_i e; exact absurd c e
theorem mskL_rises (p : Int) (h : Nat) : ∀ f m, (mskL p h f m).Pairwise (· < ·) := by
  intro f
  induction f with
  | zero => intro m; simp [mskL]
  | succ f ih =>
    intro m
    simp only [mskL]
    split
    · exact List.pairwise_cons.2 ⟨fun x hx => by have := mskL_mem p h f (m + 1) x hx; omega, ih _⟩
    · exact ih _
/-- The masks of all states with p props and the height h. -/
def msks (p h : Int) : List Int := mskL p h.toNat (2 ^ h.toNat) 0
theorem pow_le10 {h : Int} (h1 : 1 ≤ h) (h2 : h ≤ 10) : (2 : Nat) ^ h.toNat ≤ 1024 := by
  have : (2 : Nat) ^ h.toNat ≤ 2 ^ 10 := Nat.pow_le_pow_right (by omega) (by omega)
  omega
theorem msks_len {p h : Int} (h1 : 1 ≤ h) (h2 : h ≤ 10) : (msks p h).length ≤ 1024 := Nat.le_trans (mskL_len _ _ _ _) (pow_le10 h1 h2)

theorem l09Masks_any (p h : Int) (w : World) (h1 : 1 ≤ h) (h2 : h ≤ 10) :
    Calls Try.prog 201 #[.int .i64 p, .int .i64 h] w fun e w' => ∃ v, e = .returned v ∧ w'.ownsRow w.heap.size 2 1 v (msks p h).length (ints (msks p h)) ∧ Below w.heap.size w w' := by
  have hlen := msks_len (p := p) h1 h2
  obtain ⟨p1, p2, p3⟩ := pow_wrap h (by omega) (by omega)
  obtain ⟨N, hN⟩ : ∃ N : Nat, (2 : Int) ^ h.toNat = (N : Int) := ⟨2 ^ h.toNat, by simp⟩
  have hN2 : N ≤ 1024 := by have := pow_le10 h1 h2; have e : ((2 ^ h.toNat : Nat) : Int) = (N : Int) := by rw [← hN]; simp
                            omega
  have hst : Hid (([] : List Int) ++ mskL p h.toNat N 0 = msks p h) := by
    show _ = _
    have e : N = 2 ^ h.toNat := by have : ((2 ^ h.toNat : Nat) : Int) = (N : Int) := by rw [← hN]; simp
                                   omega
    rw [e]; rfl
  have hNH := hid hN
  generalize msks p h = R at *
  rw [hN] at p1 p2 p3
  have hX : ∀ x : Int, x < (N : Int) → x < 2 ^ h.toNat := fun x k => by rw [hN]; exact k
  have HX := hid hX
  clear hX p2 p3
  go_enter Try.func201, Try.ntmps201
  go_wp2
  go_loopw [5, 6] (fun v m wr => ∃ (out : List Int) (z : Int) (f : Nat), m = .int .i64 z ∧ 0 ≤ z ∧ z + (f : Int) = N ∧ Hid (out ++ mskL p h.toNat f z = R) ∧ wr.ownsRow w.heap.size 2 1 v out.length (ints out) ∧ Below w.heap.size w wr) (fun _ m _ => (1025 - intOf m).toNat)
  case atStart => exact ⟨[], 0, N, rfl, by omega, by omega, hst, World.ownsRow_lit _ _ 0 (Nat.le_refl _) (by simp [maxLen]) rfl, (by repeat' (first | exact Below.refl _ _ | (with_reducible assumption) | (with_reducible refine Below.alloc ?_ ?_ _) | (with_reducible refine Below.setCell ?_ ?_ _) | (with_reducible refine Below.drew ?_) | (with_reducible refine below_drewN ?_ _) | (refine Below.trans ?_ (Below.mono (by assumption) ?_)) | (with_reducible exact Nat.le_refl _) | (with_reducible assumption) | (exact Below.size (by assumption)) | omega | go_size | (simp at *; omega)))⟩
  case round =>
    obtain ⟨out, z, f, rfl, hz, hf, he, ho, hb0⟩ := hrel
    have hB := hb0.size
    by_cases c1 : z < (N : Int)
    · obtain ⟨g, rfl⟩ : ∃ g, f = g + 1 := ⟨f - 1, by omega⟩
      have hol : out.length ≤ 1024 := by have := he.out; have h3 := congrArg List.length this; simp at h3; omega
      have hzl := HX.out z c1
      by_cases c2 : popc h.toNat z = p
      · have k2 : (popc h.toNat z == p) = true := by simp [c2]
        have HZ : Hid ((out ++ [z]) ++ mskL p h.toNat g (z + 1) = R) := by show _ = _; rw [← he.out, mskL_yes c2]; simp
        have HZL := hid hzl
        clear c2 he hzl
        go_wp2_with (first | (go_at_call 202; refine (l08Count_any _ h.toNat _ hz (by omega) HZL.out).mono ?_; rintro e w' ⟨rfl, rfl⟩) | (at_builtin; refine push_int ho (z) _ Try.underlying43 inf_int rfl rfl _ _ rfl rfl rfl (by omega) (by omega) ?_; intro v1 w1 ho1 hb1 hg1))
        go_roundw
        case rel => exact ⟨out ++ [z], z + 1, g, rfl, by omega, by omega, HZ, ho1, hb0.trans hb1⟩
        case measure => simp [intOf]; omega
      · have k2 : (popc h.toNat z == p) = false := by simp [c2]
        have HZ : Hid (out ++ mskL p h.toNat g (z + 1) = R) := by show _ = _; rw [← he.out, mskL_not c2]
        have HZL := hid hzl
        clear c2 he hzl
        go_wp2_with (go_at_call 202; refine (l08Count_any _ h.toNat _ hz (by omega) HZL.out).mono ?_; rintro e w' ⟨rfl, rfl⟩)
        go_roundw
        case rel => exact ⟨out, z + 1, g, rfl, by omega, by omega, HZ, ho, hb0⟩
        case measure => simp [intOf]; omega
    · go_wp2
      go_ret
      have h0 : f = 0 := by omega
      subst h0
      have := he.out
      rw [mskL, List.append_nil] at this
      subst this
      exact ⟨_, rfl, ho, hb0⟩

end Go.Proofs.Ytlbhfjbbkkkldaa
