/- Contracts of the Moebius function and of the divisors; the walks of their laws. -/
import Derived.Test.YtegapfkmgfcolaaA
import Derived.Test.YtegapfkmgfcolaaC
import Derived.Test.YtegapfkmgfcolaaM
namespace Go.Proofs.Ytegapfkmgfcolaa
open Go.RowKit
set_option linter.unusedVariables false

theorem mobius_any (n : Int) (w : World) (h1 : 1 ≤ n) (h2 : n ≤ 1000) :
    Calls Try.prog 54 #[.int .i64 n] w fun e w' => e = .returned (.int .i64 (mobF 1001 n 2 1)) ∧ w = w' := by
  have hi := MobInv.start h1 h2
  generalize mobF 1001 n 2 1 = R at *
  go_enter Try.func54, Try.ntmps54
  go_wp2
  go_loop [0, 3, 4] (fun a o p => ∃ (x y z : Int) (f : Nat), a = .int .i64 x ∧ o = .int .i64 y ∧ p = .int .i64 z ∧ MobInv R f x y z) (fun _ _ p => (1003 - intOf p).toNat)
  case atStart => exact ⟨n, 1, 2, 1001, rfl, rfl, rfl, hi⟩
  case round =>
    obtain ⟨x, y, z, f, rfl, rfl, rfl, hi⟩ := hrel
    have b1 := hi.x1; have b2 := hi.x2; have b3 := hi.z2; have b4 := hi.y1; have b5 := hi.y2
    by_cases c1 : 1 < x
    · have c2 := hi.zle c1
      obtain ⟨g, rfl⟩ := hi.fuel c1
      by_cases c3 : x % z = 0
      · have k3 : (x % z != 0) = false := by simp [c3]
        by_cases c4 : x / z % z = 0
        · have k4 : (x / z % z == 0) = true := by simp [c4]
          have k5 : 0 ≤ x / z := Int.ediv_nonneg (by omega) (by omega)
          have HZ := hid (hi.zero c1 c3 c4)
          clear c3 c4 hi
          go_wp2
          go_ret
          exact ⟨ret_int HZ.out.symm, rfl⟩
        · have k4 : (x / z % z == 0) = false := by simp [c4]
          have k5 : 0 ≤ x / z := Int.ediv_nonneg (by omega) (by omega)
          have HZ := hi.turn c1 c3 c4
          clear c3 c4 hi
          go_wp2
          go_round
          case rel => exact ⟨_, _, _, g, rfl, rfl, rfl, HZ⟩
          case measure => simp [intOf]; omega
      · have k3 : (x % z != 0) = true := by simp [c3]
        have HZ := hi.skip c1 c3
        clear c3 hi
        go_wp2
        go_round
        case rel => exact ⟨_, _, _, g, rfl, rfl, rfl, HZ⟩
        case measure => simp [intOf]; omega
    · have HZ := hid (hi.done c1)
      clear hi
      go_wp2
      go_ret
      exact ⟨ret_int HZ.out.symm, rfl⟩
theorem l12Mobius_any (n : Int) (w : World) (h1 : 1 ≤ n) (h2 : n ≤ 1000) :
    Calls Try.prog 53 #[.int .i64 n] w fun e w' => e = .returned (.int .i64 (mobF 1001 n 2 1)) ∧ w = w' := by
  have hi := MobInv.start h1 h2
  generalize mobF 1001 n 2 1 = R at *
  go_enter Try.func53, Try.ntmps53
  go_wp2
  go_loop [0, 3, 4] (fun a o p => ∃ (x y z : Int) (f : Nat), a = .int .i64 x ∧ o = .int .i64 y ∧ p = .int .i64 z ∧ MobInv R f x y z) (fun _ _ p => (1003 - intOf p).toNat)
  case atStart => exact ⟨n, 1, 2, 1001, rfl, rfl, rfl, hi⟩
  case round =>
    obtain ⟨x, y, z, f, rfl, rfl, rfl, hi⟩ := hrel
    have b1 := hi.x1; have b2 := hi.x2; have b3 := hi.z2; have b4 := hi.y1; have b5 := hi.y2
    by_cases c1 : 1 < x
    · have c2 := hi.zle c1
      obtain ⟨g, rfl⟩ := hi.fuel c1
      by_cases c3 : x % z = 0
      · have k3 : (x % z != 0) = false := by simp [c3]
        by_cases c4 : x / z % z = 0
        · have k4 : (x / z % z == 0) = true := by simp [c4]
          have k5 : 0 ≤ x / z := Int.ediv_nonneg (by omega) (by omega)
          have HZ := hid (hi.zero c1 c3 c4)
          clear c3 c4 hi
          go_wp2
          go_ret
          exact ⟨ret_int HZ.out.symm, rfl⟩
        · have k4 : (x / z % z == 0) = false := by simp [c4]
          have k5 : 0 ≤ x / z := Int.ediv_nonneg (by omega) (by omega)
          have HZ := hi.turn c1 c3 c4
          clear c3 c4 hi
          go_wp2
          go_round
          case rel => exact ⟨_, _, _, g, rfl, rfl, rfl, HZ⟩
          case measure => simp [intOf]; omega
      · have k3 : (x % z != 0) = true := by simp [c3]
        have HZ := hi.skip c1 c3
        clear c3 hi
        go_wp2
        go_round
        case rel => exact ⟨_, _, _, g, rfl, rfl, rfl, HZ⟩
        case measure => simp [intOf]; omega
    · have HZ := hid (hi.done c1)
      have c2 : ¬ z ≤ x := by omega
      clear hi
      go_wp2
      go_ret
      exact ⟨ret_int HZ.out.symm, rfl⟩
def mobR (n : Int) : Int × Int := if betweenB n 1 1000 then (mobF 1001 n 2 1, 0) else (0, 2)
theorem Mobius_any (n : Int) (w : World) :
    Calls Try.prog 24 #[.int .i64 n] w fun e w' => e = .returned (.tuple #[.int .i64 (mobR n).1, .int .i64 (mobR n).2]) ∧ w = w' := by
  by_cases k : betweenB n 1 1000 = true
  · have b := (betweenB_iff _ _ _).1 k
    have hs : Hid (mobR n = (mobF 1001 n 2 1, 0)) := by show _ = _; simp [mobR, k]
    go_enter Try.func24, Try.ntmps24
    go_wp2_with (first | (go_at_call 47; refine (between_any _ _ _ _).mono ?_; rintro e w' ⟨rfl, rfl⟩) | (go_at_call 54; refine (mobius_any _ _ (by omega) (by omega)).mono ?_; rintro e w' ⟨rfl, rfl⟩))
    go_ret2
    exact ⟨by rw [hs.out]; rfl, rfl⟩
  · have k : betweenB n 1 1000 = false := by simpa using k
    have hs : Hid (mobR n = (0, 2)) := by show _ = _; simp [mobR, k]
    go_enter Try.func24, Try.ntmps24
    go_wp2_with (first | (go_at_call 47; refine (between_any _ _ _ _).mono ?_; rintro e w' ⟨rfl, rfl⟩) | (go_at_call 54; refine (mobius_any _ _ (by omega) (by omega)).mono ?_; rintro e w' ⟨rfl, rfl⟩))
    go_ret2
    exact ⟨by rw [hs.out]; rfl, rfl⟩
theorem specMobius_any (n : Int) (w : World) :
    Calls Try.prog 23 #[.int .i64 n] w fun e w' => e = .returned (.tuple #[.int .i64 (mobR n).1, .int .i64 (mobR n).2]) ∧ w = w' := by
  by_cases k : betweenB n 1 1000 = true
  · have b := (betweenB_iff _ _ _).1 k
    have hs : Hid (mobR n = (mobF 1001 n 2 1, 0)) := by show _ = _; simp [mobR, k]
    go_enter Try.func23, Try.ntmps23
    go_wp2_with (first | (go_at_call 49; refine (l00In_any _ _ _ _).mono ?_; rintro e w' ⟨rfl, rfl⟩) | (go_at_call 53; refine (l12Mobius_any _ _ (by omega) (by omega)).mono ?_; rintro e w' ⟨rfl, rfl⟩))
    go_ret2
    exact ⟨by rw [hs.out]; rfl, rfl⟩
  · have k : betweenB n 1 1000 = false := by simpa using k
    have hs : Hid (mobR n = (0, 2)) := by show _ = _; simp [mobR, k]
    go_enter Try.func23, Try.ntmps23
    go_wp2_with (first | (go_at_call 49; refine (l00In_any _ _ _ _).mono ?_; rintro e w' ⟨rfl, rfl⟩) | (go_at_call 53; refine (l12Mobius_any _ _ (by omega) (by omega)).mono ?_; rintro e w' ⟨rfl, rfl⟩))
    go_ret2
    exact ⟨by rw [hs.out]; rfl, rfl⟩
theorem fnExactMobius_walk (w : World) (n : Int) (_ : BD n) :
    Calls Try.prog 6 #[.int .i64 n] w fun e w' => e = .returned (.bool true) ∧ Below w.heap.size w w' := by
  have h1 := hid (specMobius_any n)
  have h2 := hid (Mobius_any n)
  generalize mobR n = r at h1 h2
  obtain ⟨a, b⟩ := r
  go_enter Try.func6, Try.ntmps6
  go_wp2_with (first | (go_at_call 23; refine (h1.out _).mono ?_; rintro e w' ⟨rfl, rfl⟩) | (go_at_call 24; refine (h2.out _).mono ?_; rintro e w' ⟨rfl, rfl⟩))
  go_ret
  exact ⟨rfl, (by repeat' (first | exact Below.refl _ _ | (with_reducible assumption) | (with_reducible refine Below.alloc ?_ ?_ _) | (with_reducible refine Below.setCell ?_ ?_ _) | (with_reducible refine Below.drew ?_) | (with_reducible refine below_drewN ?_ _) | (refine Below.trans ?_ (Below.mono (by assumption) ?_)) | (with_reducible exact Nat.le_refl _) | (with_reducible assumption) | (exact Below.size (by assumption)) | omega | go_size | (simp at *; omega)))⟩

/-- What DivisorsOf gives. -/
def rDivisorsOf (n : Int) : List Int × Int := if betweenB n 1 1000 then (divL n n.toNat 1, 0) else ([], 2)

theorem divL_yes (n : Int) (f : Nat) (d : Int) (h : n % d = 0) : divL n (f + 1) d = d :: divL n f (d + 1) := by simp [divL, h]
theorem divL_no (n : Int) (f : Nat) (d : Int) (h : n % d ≠ 0) : divL n (f + 1) d = divL n f (d + 1) := by simp [divL, h]

theorem divisors_any (n : Int) (w : World) (h1 : 1 ≤ n) (h2 : n ≤ 1000) :
    Calls Try.prog 55 #[.int .i64 n] w fun e w' => ∃ v, e = .returned v ∧ w'.ownsRow w.heap.size 2 1 v (divL n n.toNat 1).length (ints (divL n n.toNat 1)) ∧ Below w.heap.size w w' := by
  have hlen := divL_len n n.toNat 1
  have hst : Hid (([] : List Int) ++ divL n n.toNat 1 = divL n n.toNat 1) := rfl
  generalize hR : divL n n.toNat 1 = R at *
  have hst2 : Hid (([] : List Int) ++ divL n n.toNat 1 = R) := hR
  clear hR hst
  go_enter Try.func55, Try.ntmps55
  go_wp2
  go_loopw [3, 4] (fun v d wr => ∃ (out : List Int) (z : Int) (f : Nat), d = .int .i64 z ∧ 1 ≤ z ∧ z + (f : Int) = n + 1 ∧ Hid (out ++ divL n f z = R) ∧ wr.ownsRow w.heap.size 2 1 v out.length (ints out) ∧ Below w.heap.size w wr) (fun _ d _ => (1001 - intOf d).toNat)
  case atStart => exact ⟨[], 1, n.toNat, rfl, by omega, by omega, hst2, World.ownsRow_lit _ _ 0 (Nat.le_refl _) (by simp [maxLen]) rfl, (by repeat' (first | exact Below.refl _ _ | (with_reducible assumption) | (with_reducible refine Below.alloc ?_ ?_ _) | (with_reducible refine Below.setCell ?_ ?_ _) | (with_reducible refine Below.drew ?_) | (with_reducible refine below_drewN ?_ _) | (refine Below.trans ?_ (Below.mono (by assumption) ?_)) | (with_reducible exact Nat.le_refl _) | (with_reducible assumption) | (exact Below.size (by assumption)) | omega | go_size | (simp at *; omega)))⟩
  case round =>
    obtain ⟨out, z, f, rfl, hz, hf, he, ho, hb0⟩ := hrel
    have hB := hb0.size
    by_cases c1 : z ≤ n
    · obtain ⟨g, rfl⟩ : ∃ g, f = g + 1 := ⟨f - 1, by omega⟩
      by_cases c2 : n % z = 0
      · have k2 : (n % z == 0) = true := by simp [c2]
        have hol : out.length ≤ 1000 := by have := he.out; have h3 := congrArg List.length this; simp at h3; omega
        have HZ : Hid ((out ++ [z]) ++ divL n g (z + 1) = R) := by show _ = _; rw [← he.out, divL_yes _ _ _ c2]; simp
        clear c2 he
        go_wp2_with (at_builtin; refine push_int ho (z) _ Try.underlying40 inf_int rfl rfl _ _ rfl rfl rfl (by omega) (by omega) ?_; intro v1 w1 ho1 hb1 hg1)
        go_roundw
        case rel => exact ⟨out ++ [z], z + 1, g, rfl, by omega, by omega, HZ, ho1, hb0.trans hb1⟩
        case measure => simp [intOf]; omega
      · have k2 : (n % z == 0) = false := by simp [c2]
        have HZ : Hid (out ++ divL n g (z + 1) = R) := by show _ = _; rw [← he.out, divL_no _ _ _ c2]
        clear c2 he
        go_wp2
        go_roundw
        case rel => exact ⟨out, z + 1, g, rfl, by omega, by omega, HZ, ho, hb0⟩
        case measure => simp [intOf]; omega
    · go_wp2
      go_ret
      have h0 : f = 0 := by omega
      subst h0
      have := he.out
      rw [divL, List.append_nil] at this
      subst this
      exact ⟨_, rfl, ho, hb0⟩
theorem specDivisorsOf_any (n : Int) (w : World) :
    Calls Try.prog 34 #[.int .i64 n] w fun e w' => ∃ v, e = .returned (.tuple #[v, .int .i64 (rDivisorsOf n).2]) ∧ w'.ownsRow w.heap.size 2 1 v (rDivisorsOf n).1.length (ints (rDivisorsOf n).1) ∧ Below w.heap.size w w' := by
  by_cases k : betweenB n 1 1000 = true
  · obtain ⟨h1, h2⟩ := (betweenB_iff _ _ _).1 k
    have hs : Hid (rDivisorsOf n = (divL n n.toNat 1, 0)) := by show _ = _; simp [rDivisorsOf, k]
    have hlen := divL_len n n.toNat 1
    rw [hs.out]
    clear hs
    generalize hR : divL n n.toNat 1 = R at *
    have hst2 : Hid (([] : List Int) ++ divL n n.toNat 1 = R) := hR
    clear hR
    go_enter Try.func34, Try.ntmps34
    go_wp2_with (go_at_call 49; refine (l00In_any _ _ _ _).mono ?_; rintro e w' ⟨rfl, rfl⟩)
    go_loopw [4, 5] (fun v d wr => ∃ (out : List Int) (z : Int) (f : Nat), d = .int .i64 z ∧ 1 ≤ z ∧ z + (f : Int) = n + 1 ∧ Hid (out ++ divL n f z = R) ∧ wr.ownsRow w.heap.size 2 1 v out.length (ints out) ∧ Below w.heap.size w wr) (fun _ d _ => (1001 - intOf d).toNat)
    case atStart => exact ⟨[], 1, n.toNat, rfl, by omega, by omega, hst2, World.ownsRow_lit _ _ 0 (Nat.le_refl _) (by simp [maxLen]) rfl, (by repeat' (first | exact Below.refl _ _ | (with_reducible assumption) | (with_reducible refine Below.alloc ?_ ?_ _) | (with_reducible refine Below.setCell ?_ ?_ _) | (with_reducible refine Below.drew ?_) | (with_reducible refine below_drewN ?_ _) | (refine Below.trans ?_ (Below.mono (by assumption) ?_)) | (with_reducible exact Nat.le_refl _) | (with_reducible assumption) | (exact Below.size (by assumption)) | omega | go_size | (simp at *; omega)))⟩
    case round =>
      obtain ⟨out, z, f, rfl, hz, hf, he, ho, hb0⟩ := hrel
      have hB := hb0.size
      by_cases c1 : z ≤ n
      · obtain ⟨g, rfl⟩ : ∃ g, f = g + 1 := ⟨f - 1, by omega⟩
        by_cases c2 : n % z = 0
        · have k2 : (n % z == 0) = true := by simp [c2]
          have hol : out.length ≤ 1000 := by have := he.out; have h3 := congrArg List.length this; simp at h3; omega
          have HZ : Hid ((out ++ [z]) ++ divL n g (z + 1) = R) := by show _ = _; rw [← he.out, divL_yes _ _ _ c2]; simp
          clear c2 he
          go_wp2_with (at_builtin; refine push_int ho (z) _ Try.underlying40 inf_int rfl rfl _ _ rfl rfl rfl (by omega) (by omega) ?_; intro v1 w1 ho1 hb1 hg1)
          go_roundw
          case rel => exact ⟨out ++ [z], z + 1, g, rfl, by omega, by omega, HZ, ho1, hb0.trans hb1⟩
          case measure => simp [intOf]; omega
        · have k2 : (n % z == 0) = false := by simp [c2]
          have HZ : Hid (out ++ divL n g (z + 1) = R) := by show _ = _; rw [← he.out, divL_no _ _ _ c2]
          clear c2 he
          go_wp2
          go_roundw
          case rel => exact ⟨out, z + 1, g, rfl, by omega, by omega, HZ, ho, hb0⟩
          case measure => simp [intOf]; omega
      · go_wp2
        go_ret2
        have h0 : f = 0 := by omega
        subst h0
        have := he.out
        rw [divL, List.append_nil] at this
        subst this
        exact ⟨_, rfl, ho, hb0⟩
  · have k : betweenB n 1 1000 = false := by simpa using k
    have hs : Hid (rDivisorsOf n = ([], 2)) := by show _ = _; simp [rDivisorsOf, k]
    go_enter Try.func34, Try.ntmps34
    go_wp2_with (go_at_call 49; refine (l00In_any _ _ _ _).mono ?_; rintro e w' ⟨rfl, rfl⟩)
    go_ret2
    rw [hs.out]
    exact ⟨_, rfl, World.ownsRow_nil _ _ _ _, (by repeat' (first | exact Below.refl _ _ | (with_reducible assumption) | (with_reducible refine Below.alloc ?_ ?_ _) | (with_reducible refine Below.setCell ?_ ?_ _) | (with_reducible refine Below.drew ?_) | (with_reducible refine below_drewN ?_ _) | (refine Below.trans ?_ (Below.mono (by assumption) ?_)) | (with_reducible exact Nat.le_refl _) | (with_reducible assumption) | (exact Below.size (by assumption)) | omega | go_size | (simp at *; omega)))⟩
theorem DivisorsOf_any (n : Int) (w : World) :
    Calls Try.prog 27 #[.int .i64 n] w fun e w' => ∃ v, e = .returned (.tuple #[v, .int .i64 (rDivisorsOf n).2]) ∧ w'.ownsRow w.heap.size 2 1 v (rDivisorsOf n).1.length (ints (rDivisorsOf n).1) ∧ Below w.heap.size w w' := by
  by_cases k : betweenB n 1 1000 = true
  · obtain ⟨h1, h2⟩ := (betweenB_iff _ _ _).1 k
    have hs : Hid (rDivisorsOf n = (divL n n.toNat 1, 0)) := by show _ = _; simp [rDivisorsOf, k]
    go_enter Try.func27, Try.ntmps27
    go_wp2_with (first | (go_at_call 47; refine (between_any _ _ _ _).mono ?_; rintro e w' ⟨rfl, rfl⟩) | (go_at_call 55; refine (divisors_any _ _ h1 h2).mono ?_; rintro e w1 ⟨v1, rfl, ho1, hb1⟩))
    go_ret2
    rw [hs.out]
    exact ⟨_, rfl, ho1, hb1⟩
  · have k : betweenB n 1 1000 = false := by simpa using k
    have hs : Hid (rDivisorsOf n = ([], 2)) := by show _ = _; simp [rDivisorsOf, k]
    go_enter Try.func27, Try.ntmps27
    go_wp2_with (go_at_call 47; refine (between_any _ _ _ _).mono ?_; rintro e w' ⟨rfl, rfl⟩)
    go_ret2
    rw [hs.out]
    exact ⟨_, rfl, World.ownsRow_nil _ _ _ _, (by repeat' (first | exact Below.refl _ _ | (with_reducible assumption) | (with_reducible refine Below.alloc ?_ ?_ _) | (with_reducible refine Below.setCell ?_ ?_ _) | (with_reducible refine Below.drew ?_) | (with_reducible refine below_drewN ?_ _) | (refine Below.trans ?_ (Below.mono (by assumption) ?_)) | (with_reducible exact Nat.le_refl _) | (with_reducible assumption) | (exact Below.size (by assumption)) | omega | go_size | (simp at *; omega)))⟩
theorem DivisorsOf_len (n : Int) : (rDivisorsOf n).1.length ≤ 1000 := by
  unfold rDivisorsOf
  split
  · rename_i k
    have b := (betweenB_iff _ _ _).1 k
    have := divL_len n n.toNat 1
    simp; omega
  · simp
theorem fnExactDivisorsOf_walk (w : World) (aN : Int) (_ : BD aN) :
    Calls Try.prog 11 #[.int .i64 aN] w fun e w' => e = .returned (.bool true) ∧ Below w.heap.size w w' := by
  have hS := hid (fun  (w1 : World)  => specDivisorsOf_any aN w1 )
  have hI := hid (fun  (w1 : World)  => DivisorsOf_any aN w1 )
  have hL := DivisorsOf_len aN
  generalize rDivisorsOf aN = r at *
  obtain ⟨r0, r1⟩ := r
  try dsimp only at hL
  have hB := Below.refl w.heap.size w
  go_enter Try.func11, Try.ntmps11
  go_wp2_with (go_at_call 34; refine (hS.out _).mono ?_; rintro e w1 ⟨v1, rfl, ho1, hb1⟩; obtain ⟨A1, c1, rfl⟩ := own_form ho1; have l1 := ho1.lt; have s1 := hb1.size; replace hB := bchain hB hb1)
  go_wp2_with (go_at_call 27; refine (hI.out _).mono ?_; rintro e w2 ⟨v2, rfl, ho2, hb2⟩; obtain ⟨A2, c2, rfl⟩ := own_form ho2; have l2 := ho2.lt; have s2 := hb2.size; replace hB := bchain hB hb2; replace ho1 := own_below ho1 hb2)
  go_wp2_with (go_at_call 35; refine (eqInt64S_same _ _ _ _ _ _ _ (by omega) (Rd.of_own ho2) (Rd.of_own ho1)).mono ?_; rintro e w3 ⟨rfl, hb3⟩; have s3 := hb3.size; replace hB := bchain hB hb3; replace ho1 := own_below ho1 hb3; replace ho2 := own_below ho2 hb3)
  go_wp2_with (go_at_call 36; refine (markInt64S_any _ _ _ 1 _ _ (by omega) (by omega) ho2).mono ?_; rintro e w4 ⟨rfl, hm4, hg4⟩; have s4 := hg4.size; replace hB := below_grown hB hg4 (fun g h => by have := (l2 g h).1; omega); replace ho1 := own_apart ho1 w1.heap.size (fun g h => by have := (l1 g h).2; omega) (fun g h => by have := (l2 g h).1; omega) hg4; replace ho2 := hm4)
  go_wp2_with (go_at_call 37; refine (heldInt64S_any _ _ _ 1 _ (by omega) (by omega) (Rd.of_own ho2)).mono ?_; rintro e w5 ⟨rfl, hb5⟩; have s5 := hb5.size; replace hB := bchain hB hb5; replace ho1 := own_below ho1 hb5; replace ho2 := own_below ho2 hb5)
  go_wp2_with (go_at_call 27; refine (hI.out _).mono ?_; rintro e w6 ⟨v6, rfl, ho6, hb6⟩; obtain ⟨A6, c6, rfl⟩ := own_form ho6; have l6 := ho6.lt; have s6 := hb6.size; replace hB := bchain hB hb6; replace ho1 := own_below ho1 hb6; replace ho2 := own_below ho2 hb6)
  go_wp2_with (go_at_call 35; refine (eqInt64S_same _ _ _ _ _ _ _ (by omega) (Rd.of_own ho6) (Rd.of_own ho1)).mono ?_; rintro e w7 ⟨rfl, hb7⟩; have s7 := hb7.size; replace hB := bchain hB hb7; replace ho1 := own_below ho1 hb7; replace ho2 := own_below ho2 hb7; replace ho6 := own_below ho6 hb7)
  go_wp2_with (go_at_call 37; refine (heldInt64S_any _ _ _ 1 _ (by omega) (by omega) (Rd.of_own ho2)).mono ?_; rintro e w8 ⟨rfl, hb8⟩; have s8 := hb8.size; replace hB := bchain hB hb8; replace ho1 := own_below ho1 hb8; replace ho2 := own_below ho2 hb8; replace ho6 := own_below ho6 hb8)
  go_ret
  exact ⟨rfl, (by repeat' (first | exact Below.refl _ _ | (with_reducible assumption) | (with_reducible refine Below.alloc ?_ ?_ _) | (with_reducible refine Below.setCell ?_ ?_ _) | (with_reducible refine Below.drew ?_) | (with_reducible refine below_drewN ?_ _) | (refine Below.trans ?_ (Below.mono (by assumption) ?_)) | (with_reducible exact Nat.le_refl _) | (with_reducible assumption) | (exact Below.size (by assumption)) | omega | go_size | (simp at *; omega)))⟩
end Go.Proofs.Ytegapfkmgfcolaa
