/- Contracts of CanFollow, and the walk of its law. -/
import Derived.Test.YthbbfhlpoinenaaIg
namespace Go.Proofs.Ythbbfhlpoinenaa
open Go.RowKit
set_option linter.unusedVariables false

set_option maxHeartbeats 800000 in
theorem CanFollow_any (A : Option Addr) (n c : Nat) (p : List Int) (A2 : Option Addr) (n2 c2 : Nat) (q : List Int) (w : World) (hn : n ≤ 1099511627776) (hr : Rd w w.heap.size 1 A n (ints p)) (hn2 : n2 ≤ 1099511627776) (hr2 : Rd w w.heap.size 1 A2 n2 (ints q)) :
    Calls Try.prog 31 #[.slice A n c, .slice A2 n2 c2] w fun e w' => e = .returned (.bool (rCanFollow p q)) ∧ Below w.heap.size w w' := by
  have hV := isLow_any A n c p w hn hr
  have hW := fun (w1 : World) (r : Rd w1 w1.heap.size 1 A2 n2 (ints q)) => isLow_any A2 n2 c2 q w1 hn2 r
  have HR := hid hr
  have HR2 := hid hr2
  by_cases k : loB p = true
  · rw [k] at hV
    by_cases k2 : loB q = true
    · rw [k2] at hW
      have k1 := (loB_iff.1 k).1
      have k3 := (loB_iff.1 k2).1
      have HO := hid (fun (w1 : World) (r : Rd w1 w1.heap.size 1 A n (ints p)) => stateOf_any A n c p 0 10 w1 (by omega) (by omega) (by omega) k1 r)
      have HP := hid (fun (w1 : World) (r : Rd w1 w1.heap.size 1 A2 n2 (ints q)) => stateOf_any A2 n2 c2 q 0 10 w1 (by omega) (by omega) (by omega) k3 r)
      obtain ⟨x, hx⟩ : ∃ x : Int, ((stM p 0 10 : Nat) : Int) = x := ⟨_, rfl⟩
      obtain ⟨y, hy⟩ : ∃ y : Int, ((stM q 0 10 : Nat) : Int) = y := ⟨_, rfl⟩
      have hs : Hid (rCanFollow p q = decide (x = y)) := by
        show _ = _
        rw [rCanFollow, k, k2, ← hx, ← hy]
        by_cases e : stM p 0 10 = stM q 0 10
        · simp [e]
        · have : ¬ ((stM p 0 10 : Nat) : Int) = ((stM q 0 10 : Nat) : Int) := by omega
          simp [e, this]
      rw [hx] at HO
      rw [hy] at HP
      have hV := hid hV
      have hW := hid hW
      clear k k2 k1 k3 hr hr2 hx hy
      by_cases hxy : x = y
      · subst hxy
        have hs : Hid (rCanFollow p q = true) := by show _ = _; rw [hs.out]; simp
        go_enter Try.func31, Try.ntmps31
        go_wp2_with fail
        (refine hV.out.mono ?_; rintro e w1 ⟨rfl, hb1⟩; have hB1 := hid hb1)
        go_wp2_with fail
        (refine (hW.out _ ((HR2.out.below hB1.out (Nat.le_refl _)).more hB1.out.size)).mono ?_; rintro e w2 ⟨rfl, hb2⟩; have hB2 := hid (bchain hB1.out hb2))
        go_wp2_with fail
        (refine (HO.out _ ((HR.out.below hB2.out (Nat.le_refl _)).more hB2.out.size)).mono ?_; rintro e w3 ⟨rfl, hb3⟩; have hB3 := hid (bchain hB2.out hb3))
        go_wp2_with fail
        (refine (HP.out _ ((HR2.out.below hB3.out (Nat.le_refl _)).more hB3.out.size)).mono ?_; rintro e w4 ⟨rfl, hb4⟩; have hB4 := hid (bchain hB3.out hb4))
        go_wp2_with fail
        go_ret
        exact ⟨ret_bool hs.out.symm, hB4.out⟩
      · have hs : Hid (rCanFollow p q = false) := by show _ = _; rw [hs.out]; simp [hxy]
        have hq : (x == y) = false := by simpa using hxy
        have hq2 : decide (x = y) = false := by simpa using hxy
        go_enter Try.func31, Try.ntmps31
        go_wp2_with fail
        (refine hV.out.mono ?_; rintro e w1 ⟨rfl, hb1⟩; have hB1 := hid hb1)
        go_wp2_with fail
        (refine (hW.out _ ((HR2.out.below hB1.out (Nat.le_refl _)).more hB1.out.size)).mono ?_; rintro e w2 ⟨rfl, hb2⟩; have hB2 := hid (bchain hB1.out hb2))
        go_wp2_with fail
        (refine (HO.out _ ((HR.out.below hB2.out (Nat.le_refl _)).more hB2.out.size)).mono ?_; rintro e w3 ⟨rfl, hb3⟩; have hB3 := hid (bchain hB2.out hb3))
        go_wp2_with fail
        (refine (HP.out _ ((HR2.out.below hB3.out (Nat.le_refl _)).more hB3.out.size)).mono ?_; rintro e w4 ⟨rfl, hb4⟩; have hB4 := hid (bchain hB3.out hb4))
        go_wp2_with fail
        go_ret
        exact ⟨ret_bool hs.out.symm, hB4.out⟩
    · have k2 : loB q = false := by simpa using k2
      rw [k2] at hW
      have hs : Hid (rCanFollow p q = false) := by show _ = _; simp [rCanFollow, k2]
      have hV := hid hV
      have hW := hid hW
      clear k k2 hr hr2
      go_enter Try.func31, Try.ntmps31
      go_wp2_with fail
      (refine hV.out.mono ?_; rintro e w1 ⟨rfl, hb1⟩; have hB1 := hid hb1)
      go_wp2_with fail
      (refine (hW.out _ ((HR2.out.below hB1.out (Nat.le_refl _)).more hB1.out.size)).mono ?_; rintro e w2 ⟨rfl, hb2⟩; have hB2 := hid (bchain hB1.out hb2))
      go_wp2_with fail
      go_ret
      exact ⟨ret_bool hs.out.symm, hB2.out⟩
  · have k : loB p = false := by simpa using k
    rw [k] at hV
    have hV := hid hV
    have hs : Hid (rCanFollow p q = false) := by show _ = _; simp [rCanFollow, k]
    clear k hr hr2 hW
    go_enter Try.func31, Try.ntmps31
    go_wp2_with fail
    (refine hV.out.mono ?_; rintro e w1 ⟨rfl, hb1⟩; have hB1 := hid hb1)
    go_wp2_with fail
    go_ret
    exact ⟨ret_bool hs.out.symm, hB1.out⟩
set_option maxHeartbeats 800000 in
theorem specCanFollow_any (A : Option Addr) (n c : Nat) (p : List Int) (A2 : Option Addr) (n2 c2 : Nat) (q : List Int) (w : World) (hn : n ≤ 1099511627776) (hr : Rd w w.heap.size 1 A n (ints p)) (hn2 : n2 ≤ 1099511627776) (hr2 : Rd w w.heap.size 1 A2 n2 (ints q)) :
    Calls Try.prog 30 #[.slice A n c, .slice A2 n2 c2] w fun e w' => e = .returned (.bool (rCanFollow p q)) ∧ Below w.heap.size w w' := by
  have hV := l08Code_any A n c p 0 10 w hn hr
  have hW := fun (w1 : World) (r : Rd w1 w1.heap.size 1 A2 n2 (ints q)) => l08Code_any A2 n2 c2 q 0 10 w1 hn2 r
  have HR := hid hr
  have HR2 := hid hr2
  by_cases k : loB p = true
  · rw [(loB_code p).2 k] at hV
    by_cases k2 : loB q = true
    · rw [(loB_code q).2 k2] at hW
      have k1 := (loB_iff.1 k).1
      have k3 := (loB_iff.1 k2).1
      have HO := hid (fun (w1 : World) (r : Rd w1 w1.heap.size 1 A n (ints p)) => l08Of_any A n c p 0 10 w1 (by omega) (by omega) (by omega) k1 r)
      have HP := hid (fun (w1 : World) (r : Rd w1 w1.heap.size 1 A2 n2 (ints q)) => l08Of_any A2 n2 c2 q 0 10 w1 (by omega) (by omega) (by omega) k3 r)
      obtain ⟨x, hx⟩ : ∃ x : Int, ((stM p 0 10 : Nat) : Int) = x := ⟨_, rfl⟩
      obtain ⟨y, hy⟩ : ∃ y : Int, ((stM q 0 10 : Nat) : Int) = y := ⟨_, rfl⟩
      have hs : Hid (rCanFollow p q = decide (x = y)) := by
        show _ = _
        rw [rCanFollow, k, k2, ← hx, ← hy]
        by_cases e : stM p 0 10 = stM q 0 10
        · simp [e]
        · have : ¬ ((stM p 0 10 : Nat) : Int) = ((stM q 0 10 : Nat) : Int) := by omega
          simp [e, this]
      rw [hx] at HO
      rw [hy] at HP
      have hV := hid hV
      have hW := hid hW
      clear k k2 k1 k3 hr hr2 hx hy
      by_cases hxy : x = y
      · subst hxy
        have hs : Hid (rCanFollow p q = true) := by show _ = _; rw [hs.out]; simp
        go_enter Try.func30, Try.ntmps30
        go_wp2_with fail
        (refine hV.out.mono ?_; rintro e w1 ⟨rfl, hb1⟩; have hB1 := hid hb1)
        go_wp2_with fail
        (refine (hW.out _ ((HR2.out.below hB1.out (Nat.le_refl _)).more hB1.out.size)).mono ?_; rintro e w2 ⟨rfl, hb2⟩; have hB2 := hid (bchain hB1.out hb2))
        go_wp2_with fail
        (refine (HO.out _ ((HR.out.below hB2.out (Nat.le_refl _)).more hB2.out.size)).mono ?_; rintro e w3 ⟨rfl, hb3⟩; have hB3 := hid (bchain hB2.out hb3))
        go_wp2_with fail
        (refine (HP.out _ ((HR2.out.below hB3.out (Nat.le_refl _)).more hB3.out.size)).mono ?_; rintro e w4 ⟨rfl, hb4⟩; have hB4 := hid (bchain hB3.out hb4))
        go_wp2_with fail
        go_ret
        exact ⟨ret_bool hs.out.symm, hB4.out⟩
      · have hs : Hid (rCanFollow p q = false) := by show _ = _; rw [hs.out]; simp [hxy]
        have hq : (x == y) = false := by simpa using hxy
        have hq2 : decide (x = y) = false := by simpa using hxy
        go_enter Try.func30, Try.ntmps30
        go_wp2_with fail
        (refine hV.out.mono ?_; rintro e w1 ⟨rfl, hb1⟩; have hB1 := hid hb1)
        go_wp2_with fail
        (refine (hW.out _ ((HR2.out.below hB1.out (Nat.le_refl _)).more hB1.out.size)).mono ?_; rintro e w2 ⟨rfl, hb2⟩; have hB2 := hid (bchain hB1.out hb2))
        go_wp2_with fail
        (refine (HO.out _ ((HR.out.below hB2.out (Nat.le_refl _)).more hB2.out.size)).mono ?_; rintro e w3 ⟨rfl, hb3⟩; have hB3 := hid (bchain hB2.out hb3))
        go_wp2_with fail
        (refine (HP.out _ ((HR2.out.below hB3.out (Nat.le_refl _)).more hB3.out.size)).mono ?_; rintro e w4 ⟨rfl, hb4⟩; have hB4 := hid (bchain hB3.out hb4))
        go_wp2_with fail
        go_ret
        exact ⟨ret_bool hs.out.symm, hB4.out⟩
    · have k0 : stC q 0 10 ≠ 0 := fun e => k2 ((loB_code q).1 e)
      have hq : (stC q 0 10 != 0) = true := by simpa using k0
      have k2 : loB q = false := by simpa using k2
      have hs : Hid (rCanFollow p q = false) := by show _ = _; simp [rCanFollow, k2]
      have hV := hid hV
      have hW := hid hW
      generalize stC q 0 10 = C at *
      clear k k2 hr hr2 k0
      go_enter Try.func30, Try.ntmps30
      go_wp2_with fail
      (refine hV.out.mono ?_; rintro e w1 ⟨rfl, hb1⟩; have hB1 := hid hb1)
      go_wp2_with fail
      (refine (hW.out _ ((HR2.out.below hB1.out (Nat.le_refl _)).more hB1.out.size)).mono ?_; rintro e w2 ⟨rfl, hb2⟩; have hB2 := hid (bchain hB1.out hb2))
      go_wp2_with fail
      go_ret
      exact ⟨ret_bool hs.out.symm, hB2.out⟩
  · have k0 : stC p 0 10 ≠ 0 := fun e => k ((loB_code p).1 e)
    have hq : (stC p 0 10 != 0) = true := by simpa using k0
    have k : loB p = false := by simpa using k
    have hV := hid hV
    have hs : Hid (rCanFollow p q = false) := by show _ = _; simp [rCanFollow, k]
    generalize stC p 0 10 = C at *
    clear k hr hr2 hW k0
    go_enter Try.func30, Try.ntmps30
    go_wp2_with fail
    (refine hV.out.mono ?_; rintro e w1 ⟨rfl, hb1⟩; have hB1 := hid hb1)
    go_wp2_with fail
    go_ret
    exact ⟨ret_bool hs.out.symm, hB1.out⟩

set_option maxRecDepth 100000 in
set_option maxHeartbeats 2000000 in
theorem fnExactCanFollow_walk (w : World) (aAA : Option Addr) (aAN aAC : Nat) (aA : List Int) (aAK : Came .i64 w aAA aAN aAC aA) (aBA : Option Addr) (aBN aBC : Nat) (aB : List Int) (aBK : Came .i64 w aBA aBN aBC aB) :
    Calls Try.prog 8 #[.slice aAA aAN aAC, .slice aBA aBN aBC] w fun e w' => e = .returned (.bool true) ∧ Below w.heap.size w w' := by
  by_cases hlong0 : 1048576 < aAN
  · have hmaA := aAK.2.1
    go_enter Try.func8, Try.ntmps8
    go_wp2
    go_ret
    exact ⟨rfl, (by repeat' (first | exact Below.refl _ _ | (with_reducible assumption) | (with_reducible refine Below.alloc ?_ ?_ _) | (with_reducible refine Below.setCell ?_ ?_ _) | (with_reducible refine Below.drew ?_) | (with_reducible refine below_drewN ?_ _) | (refine Below.trans ?_ (Below.mono (by assumption) ?_)) | (with_reducible exact Nat.le_refl _) | (with_reducible assumption) | (exact Below.size (by assumption)) | omega | go_size | (simp at *; omega)))⟩
  by_cases hlong1 : 1048576 < aBN
  · have hmaA := aAK.2.1
    have hmaB := aBK.2.1
    go_enter Try.func8, Try.ntmps8
    go_wp2
    go_ret
    exact ⟨rfl, (by repeat' (first | exact Below.refl _ _ | (with_reducible assumption) | (with_reducible refine Below.alloc ?_ ?_ _) | (with_reducible refine Below.setCell ?_ ?_ _) | (with_reducible refine Below.drew ?_) | (with_reducible refine below_drewN ?_ _) | (refine Below.trans ?_ (Below.mono (by assumption) ?_)) | (with_reducible exact Nat.le_refl _) | (with_reducible assumption) | (exact Below.size (by assumption)) | omega | go_size | (simp at *; omega)))⟩
  have KaA := Rd.of_came aAK
  have KLaA := KaA.len
  have KaB := Rd.of_came aBK
  have KLaB := KaB.len
  have B0aA := hid aAK
  have B0aB := hid aBK
  have hS := hid (fun (AaA : Option Addr) (caA : Nat) (AaB : Option Addr) (caB : Nat) (w1 : World) (kaA : Rd w1 w1.heap.size 1 AaA aAN (ints aA)) (kaB : Rd w1 w1.heap.size 1 AaB aBN (ints aB)) => specCanFollow_any AaA aAN caA aA AaB aBN caB aB w1 (by omega) kaA (by omega) kaB)
  have hI := hid (fun (AaA : Option Addr) (caA : Nat) (AaB : Option Addr) (caB : Nat) (w1 : World) (kaA : Rd w1 w1.heap.size 1 AaA aAN (ints aA)) (kaB : Rd w1 w1.heap.size 1 AaB aBN (ints aB)) => CanFollow_any AaA aAN caA aA AaB aBN caB aB w1 (by omega) kaA (by omega) kaB)
  generalize rCanFollow aA aB = r at *
  have hB := Below.refl w.heap.size w
  have KaA := hid KaA
  clear KLaA
  have KaB := hid KaB
  clear KLaB
  go_enter Try.func8, Try.ntmps8
  go_wp2_with fail
  (refine (toInt64S_any _ _ _ _ _ (by omega) ((KaA.out.below hB (Nat.le_refl _)).more hB.size)).mono ?_; rintro e w1 ⟨v1, rfl, ho1, hb1⟩; obtain ⟨A1, c1, rfl⟩ := own_form ho1; have l1 := ho1.lt; have s1 := hb1.size; replace hB := bchain hB hb1)
  go_wp2_with fail
  (refine (toInt64S_any _ _ _ _ _ (by omega) ((KaB.out.below hB (Nat.le_refl _)).more hB.size)).mono ?_; rintro e w2 ⟨v2, rfl, ho2, hb2⟩; obtain ⟨A2, c2, rfl⟩ := own_form ho2; have l2 := ho2.lt; have s2 := hb2.size; replace hB := bchain hB hb2; replace ho1 := own_below ho1 hb2)
  go_wp2_with fail
  (refine (hS.out _ _ _ _ _ (Rd.of_own ho1) (Rd.of_own ho2)).mono ?_; rintro e w3 ⟨rfl, hb3⟩; have s3 := hb3.size; replace hB := bchain hB hb3)
  go_wp2_with fail
  (refine (toInt64S_any _ _ _ _ _ (by omega) ((KaA.out.below hB (Nat.le_refl _)).more hB.size)).mono ?_; rintro e w4 ⟨v4, rfl, ho4, hb4⟩; obtain ⟨A4, c4, rfl⟩ := own_form ho4; have l4 := ho4.lt; have s4 := hb4.size; replace hB := bchain hB hb4)
  go_wp2_with fail
  (refine (toInt64S_any _ _ _ _ _ (by omega) ((KaB.out.below hB (Nat.le_refl _)).more hB.size)).mono ?_; rintro e w5 ⟨v5, rfl, ho5, hb5⟩; obtain ⟨A5, c5, rfl⟩ := own_form ho5; have l5 := ho5.lt; have s5 := hb5.size; replace hB := bchain hB hb5; replace ho4 := own_below ho4 hb5)
  go_wp2_with fail
  (refine (hI.out _ _ _ _ _ (Rd.of_own ho4) (Rd.of_own ho5)).mono ?_; rintro e w6 ⟨rfl, hb6⟩; have s6 := hb6.size; replace hB := bchain hB hb6; replace ho4 := own_below ho4 hb6; replace ho5 := own_below ho5 hb6)
  go_wp2_with fail
  (refine (toInt64S_any _ _ _ _ _ (by omega) ((KaA.out.below hB (Nat.le_refl _)).more hB.size)).mono ?_; rintro e w7 ⟨v7, rfl, ho7, hb7⟩; obtain ⟨A7, c7, rfl⟩ := own_form ho7; have l7 := ho7.lt; have s7 := hb7.size; replace hB := bchain hB hb7; replace ho4 := own_below ho4 hb7; replace ho5 := own_below ho5 hb7)
  go_wp2_with fail
  (refine (eqInt64S_same _ _ _ _ _ _ _ (by omega) (Rd.of_own ho4) (Rd.of_own ho7)).mono ?_; rintro e w8 ⟨rfl, hb8⟩; have s8 := hb8.size; replace hB := bchain hB hb8; replace ho5 := own_below ho5 hb8)
  go_wp2_with fail
  (refine (toInt64S_any _ _ _ _ _ (by omega) ((KaB.out.below hB (Nat.le_refl _)).more hB.size)).mono ?_; rintro e w9 ⟨v9, rfl, ho9, hb9⟩; obtain ⟨A9, c9, rfl⟩ := own_form ho9; have l9 := ho9.lt; have s9 := hb9.size; replace hB := bchain hB hb9; replace ho5 := own_below ho5 hb9)
  go_wp2_with fail
  (refine (eqInt64S_same _ _ _ _ _ _ _ (by omega) (Rd.of_own ho5) (Rd.of_own ho9)).mono ?_; rintro e w10 ⟨rfl, hb10⟩; have s10 := hb10.size; replace hB := bchain hB hb10)
  go_wp2_with fail
  go_ret
  exact ⟨rfl, (by repeat' (first | exact Below.refl _ _ | (with_reducible assumption) | (with_reducible refine Below.alloc ?_ ?_ _) | (with_reducible refine Below.setCell ?_ ?_ _) | (with_reducible refine Below.drew ?_) | (with_reducible refine below_drewN ?_ _) | (refine Below.trans ?_ (Below.mono (by assumption) ?_)) | (with_reducible exact Nat.le_refl _) | (with_reducible assumption) | (exact Below.size (by assumption)) | omega | go_size | (simp at *; omega)))⟩


end Go.Proofs.Ythbbfhlpoinenaa
