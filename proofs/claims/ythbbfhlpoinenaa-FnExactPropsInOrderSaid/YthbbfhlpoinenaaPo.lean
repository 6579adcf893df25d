/- Contracts of PropsInOrder, and the walk of its law. -/
import Derived.Test.YthbbfhlpoinenaaPr
namespace Go.Proofs.Ythbbfhlpoinenaa
open Go.RowKit
set_option linter.unusedVariables false

/-- What PropsInOrder gives. -/
def rPropsInOrder (p : List Int) (b : Int) : List Int × Int := if okP p then (if betweenB b 0 200 then (prs p b.toNat, 0) else ([], 2)) else ([], 1)
theorem PropsInOrder_len (p : List Int) (b : Int) : (rPropsInOrder p b).1.length ≤ 200 := by
  unfold rPropsInOrder
  split
  · split
    · rename_i h
      obtain ⟨h0, h1⟩ := (betweenB_iff _ _ _).1 h
      rw [prs_len]; omega
    · simp
  · simp

theorem PropsInOrder_any (A : Option Addr) (n c : Nat) (p : List Int) (b : Int) (w : World) (hn : n ≤ 1099511627776) (hr : Rd w w.heap.size 1 A n (ints p)) :
    Calls Try.prog 38 #[.slice A n c, .int .i64 b] w fun e w' => ∃ v, e = .returned (.tuple #[v, .int .i64 (rPropsInOrder p b).2]) ∧ w'.ownsRow w.heap.size 2 1 v (rPropsInOrder p b).1.length (ints (rPropsInOrder p b).1) ∧ Below w.heap.size w w' := by
  have hV := ValidPattern_any A n c p w hn hr
  by_cases k : okP p = true
  · rw [k] at hV
    have hV := hid hV
    by_cases k2 : betweenB b 0 200 = true
    · obtain ⟨b0, b1⟩ := (betweenB_iff _ _ _).1 k2
      obtain ⟨j, rfl⟩ := Int.eq_ofNat_of_zero_le b0
      have hs : Hid (rPropsInOrder p (j : Int) = (prs p j, 0)) := by show _ = _; simp [rPropsInOrder, k, k2]
      have hl := hid (prs_len p j)
      have HS := hid (fun (w1 : World) (h : Rd w1 w1.heap.size 1 A n (ints p)) => propsAt_any A n c p j w1 (by omega) k h)
      have HR := hid hr
      clear hr k
      go_enter Try.func38, Try.ntmps38
      go_wp2_with (first | (go_at_call 65; refine (hV.out).mono ?_; rintro e w1 ⟨rfl, hb1⟩; first | (have hk1 := bchain (by assumption) hb1; obtain ⟨hc1, hf1, hz1, hl1⟩ := bcell hk1) | (obtain ⟨hc1, hf1, hz1, hl1⟩ := bcell hb1)) | (go_at_call 61; refine (between_any _ _ _ _).mono ?_; rintro e w' ⟨rfl, rfl⟩) | (go_at_call 74; refine (HS.out _ ((HR.out.below hb1 (Nat.le_refl _)).more hb1.size)).mono ?_; rintro e w2 ⟨v2, rfl, ho2, hb2⟩))
      go_ret2
      rw [hs.out]
      exact ⟨_, rfl, own_more (by rw [hl.out]; exact ho2) hb1.size, (by repeat' (first | exact Below.refl _ _ | (with_reducible assumption) | (with_reducible refine Below.alloc ?_ ?_ _) | (with_reducible refine Below.setCell ?_ ?_ _) | (with_reducible refine Below.drew ?_) | (with_reducible refine below_drewN ?_ _) | (refine Below.trans ?_ (Below.mono (by assumption) ?_)) | (with_reducible exact Nat.le_refl _) | (with_reducible assumption) | (exact Below.size (by assumption)) | omega | go_size | (simp at *; omega)))⟩
    · have k2 : betweenB b 0 200 = false := by simpa using k2
      have hs : Hid (rPropsInOrder p b = ([], 2)) := by show _ = _; simp [rPropsInOrder, k, k2]
      clear k hr
      go_enter Try.func38, Try.ntmps38
      go_wp2_with (first | (go_at_call 65; refine (hV.out).mono ?_; rintro e w1 ⟨rfl, hb1⟩; first | (have hk1 := bchain (by assumption) hb1; obtain ⟨hc1, hf1, hz1, hl1⟩ := bcell hk1) | (obtain ⟨hc1, hf1, hz1, hl1⟩ := bcell hb1)) | (go_at_call 61; refine (between_any _ _ _ _).mono ?_; rintro e w' ⟨rfl, rfl⟩))
      go_ret2
      rw [hs.out]
      exact ⟨_, rfl, World.ownsRow_nil _ _ _ _, (by repeat' (first | exact Below.refl _ _ | (with_reducible assumption) | (with_reducible refine Below.alloc ?_ ?_ _) | (with_reducible refine Below.setCell ?_ ?_ _) | (with_reducible refine Below.drew ?_) | (with_reducible refine below_drewN ?_ _) | (refine Below.trans ?_ (Below.mono (by assumption) ?_)) | (with_reducible exact Nat.le_refl _) | (with_reducible assumption) | (exact Below.size (by assumption)) | omega | go_size | (simp at *; omega)))⟩
  · have k : okP p = false := by simpa using k
    rw [k] at hV
    have hV := hid hV
    have hs : Hid (rPropsInOrder p b = ([], 1)) := by show _ = _; simp [rPropsInOrder, k]
    clear k hr
    go_enter Try.func38, Try.ntmps38
    go_wp2_with (first | (go_at_call 65; refine (hV.out).mono ?_; rintro e w1 ⟨rfl, hb1⟩; first | (have hk1 := bchain (by assumption) hb1; obtain ⟨hc1, hf1, hz1, hl1⟩ := bcell hk1) | (obtain ⟨hc1, hf1, hz1, hl1⟩ := bcell hb1)))
    go_ret2
    rw [hs.out]
    exact ⟨_, rfl, World.ownsRow_nil _ _ _ _, (by repeat' (first | exact Below.refl _ _ | (with_reducible assumption) | (with_reducible refine Below.alloc ?_ ?_ _) | (with_reducible refine Below.setCell ?_ ?_ _) | (with_reducible refine Below.drew ?_) | (with_reducible refine below_drewN ?_ _) | (refine Below.trans ?_ (Below.mono (by assumption) ?_)) | (with_reducible exact Nat.le_refl _) | (with_reducible assumption) | (exact Below.size (by assumption)) | omega | go_size | (simp at *; omega)))⟩
theorem specPropsInOrder_any (A : Option Addr) (n c : Nat) (p : List Int) (b : Int) (w : World) (hn : n ≤ 1099511627776) (hr : Rd w w.heap.size 1 A n (ints p)) :
    Calls Try.prog 37 #[.slice A n c, .int .i64 b] w fun e w' => ∃ v, e = .returned (.tuple #[v, .int .i64 (rPropsInOrder p b).2]) ∧ w'.ownsRow w.heap.size 2 1 v (rPropsInOrder p b).1.length (ints (rPropsInOrder p b).1) ∧ Below w.heap.size w w' := by
  have hV := l02Ok_any A n c p w hn hr
  by_cases k : okP p = true
  · rw [k] at hV
    have hV := hid hV
    by_cases k2 : betweenB b 0 200 = true
    · obtain ⟨b0, b1⟩ := (betweenB_iff _ _ _).1 k2
      obtain ⟨j, rfl⟩ := Int.eq_ofNat_of_zero_le b0
      have hs : Hid (rPropsInOrder p (j : Int) = (prs p j, 0)) := by show _ = _; simp [rPropsInOrder, k, k2]
      have hl := hid (prs_len p j)
      have HS := hid (fun (w1 : World) (h : Rd w1 w1.heap.size 1 A n (ints p)) => l13Order_any A n c p j w1 (by omega) k h)
      have HR := hid hr
      clear hr k
      go_enter Try.func37, Try.ntmps37
      go_wp2_with (first | (go_at_call 62; refine (hV.out).mono ?_; rintro e w1 ⟨rfl, hb1⟩; first | (have hk1 := bchain (by assumption) hb1; obtain ⟨hc1, hf1, hz1, hl1⟩ := bcell hk1) | (obtain ⟨hc1, hf1, hz1, hl1⟩ := bcell hb1)) | (go_at_call 63; refine (l00In_any _ _ _ _).mono ?_; rintro e w' ⟨rfl, rfl⟩) | (go_at_call 73; refine (HS.out _ ((HR.out.below hb1 (Nat.le_refl _)).more hb1.size)).mono ?_; rintro e w2 ⟨v2, rfl, ho2, hb2⟩))
      go_ret2
      rw [hs.out]
      exact ⟨_, rfl, own_more (by rw [hl.out]; exact ho2) hb1.size, (by repeat' (first | exact Below.refl _ _ | (with_reducible assumption) | (with_reducible refine Below.alloc ?_ ?_ _) | (with_reducible refine Below.setCell ?_ ?_ _) | (with_reducible refine Below.drew ?_) | (with_reducible refine below_drewN ?_ _) | (refine Below.trans ?_ (Below.mono (by assumption) ?_)) | (with_reducible exact Nat.le_refl _) | (with_reducible assumption) | (exact Below.size (by assumption)) | omega | go_size | (simp at *; omega)))⟩
    · have k2 : betweenB b 0 200 = false := by simpa using k2
      have hs : Hid (rPropsInOrder p b = ([], 2)) := by show _ = _; simp [rPropsInOrder, k, k2]
      clear k hr
      go_enter Try.func37, Try.ntmps37
      go_wp2_with (first | (go_at_call 62; refine (hV.out).mono ?_; rintro e w1 ⟨rfl, hb1⟩; first | (have hk1 := bchain (by assumption) hb1; obtain ⟨hc1, hf1, hz1, hl1⟩ := bcell hk1) | (obtain ⟨hc1, hf1, hz1, hl1⟩ := bcell hb1)) | (go_at_call 63; refine (l00In_any _ _ _ _).mono ?_; rintro e w' ⟨rfl, rfl⟩))
      go_ret2
      rw [hs.out]
      exact ⟨_, rfl, World.ownsRow_nil _ _ _ _, (by repeat' (first | exact Below.refl _ _ | (with_reducible assumption) | (with_reducible refine Below.alloc ?_ ?_ _) | (with_reducible refine Below.setCell ?_ ?_ _) | (with_reducible refine Below.drew ?_) | (with_reducible refine below_drewN ?_ _) | (refine Below.trans ?_ (Below.mono (by assumption) ?_)) | (with_reducible exact Nat.le_refl _) | (with_reducible assumption) | (exact Below.size (by assumption)) | omega | go_size | (simp at *; omega)))⟩
  · have k : okP p = false := by simpa using k
    rw [k] at hV
    have hV := hid hV
    have hs : Hid (rPropsInOrder p b = ([], 1)) := by show _ = _; simp [rPropsInOrder, k]
    clear k hr
    go_enter Try.func37, Try.ntmps37
    go_wp2_with (first | (go_at_call 62; refine (hV.out).mono ?_; rintro e w1 ⟨rfl, hb1⟩; first | (have hk1 := bchain (by assumption) hb1; obtain ⟨hc1, hf1, hz1, hl1⟩ := bcell hk1) | (obtain ⟨hc1, hf1, hz1, hl1⟩ := bcell hb1)))
    go_ret2
    rw [hs.out]
    exact ⟨_, rfl, World.ownsRow_nil _ _ _ _, (by repeat' (first | exact Below.refl _ _ | (with_reducible assumption) | (with_reducible refine Below.alloc ?_ ?_ _) | (with_reducible refine Below.setCell ?_ ?_ _) | (with_reducible refine Below.drew ?_) | (with_reducible refine below_drewN ?_ _) | (refine Below.trans ?_ (Below.mono (by assumption) ?_)) | (with_reducible exact Nat.le_refl _) | (with_reducible assumption) | (exact Below.size (by assumption)) | omega | go_size | (simp at *; omega)))⟩
theorem fnExactPropsInOrder_walk (w : World) (aPA : Option Addr) (aPN aPC : Nat) (aP : List Int) (aPK : Came .i64 w aPA aPN aPC aP) (aBeats : Int) (_ : BD aBeats) :
    Calls Try.prog 10 #[.slice aPA aPN aPC, .int .i64 aBeats] w fun e w' => e = .returned (.bool true) ∧ Below w.heap.size w w' := by
  by_cases hlong : 1048576 < aPN
  · have hm := aPK.2.1
    go_enter Try.func10, Try.ntmps10
    go_wp2
    go_ret
    exact ⟨rfl, (by repeat' (first | exact Below.refl _ _ | (with_reducible assumption) | (with_reducible refine Below.alloc ?_ ?_ _) | (with_reducible refine Below.setCell ?_ ?_ _) | (with_reducible refine Below.drew ?_) | (with_reducible refine below_drewN ?_ _) | (refine Below.trans ?_ (Below.mono (by assumption) ?_)) | (with_reducible exact Nat.le_refl _) | (with_reducible assumption) | (exact Below.size (by assumption)) | omega | go_size | (simp at *; omega)))⟩
  have KaP := Rd.of_came aPK
  have KLaP := KaP.len
  have B0aP := hid aPK
  have hS := hid (fun (AaP : Option Addr) (caP : Nat) (w1 : World) (kaP : Rd w1 w1.heap.size 1 AaP aPN (ints aP)) => specPropsInOrder_any AaP aPN caP aP aBeats w1 (by omega) kaP)
  have hI := hid (fun (AaP : Option Addr) (caP : Nat) (w1 : World) (kaP : Rd w1 w1.heap.size 1 AaP aPN (ints aP)) => PropsInOrder_any AaP aPN caP aP aBeats w1 (by omega) kaP)
  have hL := PropsInOrder_len aP aBeats
  generalize rPropsInOrder aP aBeats = r at *
  obtain ⟨r0, r1⟩ := r
  try dsimp only at hL
  have hB := Below.refl w.heap.size w
  go_enter Try.func10, Try.ntmps10
  go_wp2_with (go_at_call 19; refine (toInt64S_any _ _ _ _ _ (by omega) ((KaP.below hB (Nat.le_refl _)).more hB.size)).mono ?_; rintro e w1 ⟨v1, rfl, ho1, hb1⟩; obtain ⟨A1, c1, rfl⟩ := own_form ho1; have l1 := ho1.lt; have s1 := hb1.size; replace hB := bchain hB hb1)
  go_wp2_with (go_at_call 37; refine (hS.out _ _ _ (Rd.of_own ho1)).mono ?_; rintro e w2 ⟨v2, rfl, ho2, hb2⟩; obtain ⟨A2, c2, rfl⟩ := own_form ho2; have l2 := ho2.lt; have s2 := hb2.size; replace hB := bchain hB hb2)
  go_wp2_with (go_at_call 19; refine (toInt64S_any _ _ _ _ _ (by omega) ((KaP.below hB (Nat.le_refl _)).more hB.size)).mono ?_; rintro e w3 ⟨v3, rfl, ho3, hb3⟩; obtain ⟨A3, c3, rfl⟩ := own_form ho3; have l3 := ho3.lt; have s3 := hb3.size; replace hB := bchain hB hb3; replace ho2 := own_below ho2 hb3)
  go_wp2_with (go_at_call 38; refine (hI.out _ _ _ (Rd.of_own ho3)).mono ?_; rintro e w4 ⟨v4, rfl, ho4, hb4⟩; obtain ⟨A4, c4, rfl⟩ := own_form ho4; have l4 := ho4.lt; have s4 := hb4.size; replace hB := bchain hB hb4; replace ho2 := own_below ho2 hb4; replace ho3 := own_below ho3 hb4)
  go_wp2_with (go_at_call 21; refine (eqInt64S_same _ _ _ _ _ _ _ (by omega) (Rd.of_own ho4) (Rd.of_own ho2)).mono ?_; rintro e w5 ⟨rfl, hb5⟩; have s5 := hb5.size; replace hB := bchain hB hb5; replace ho2 := own_below ho2 hb5; replace ho3 := own_below ho3 hb5; replace ho4 := own_below ho4 hb5)
  go_wp2_with (go_at_call 19; refine (toInt64S_any _ _ _ _ _ (by omega) ((KaP.below hB (Nat.le_refl _)).more hB.size)).mono ?_; rintro e w6 ⟨v6, rfl, ho6, hb6⟩; obtain ⟨A6, c6, rfl⟩ := own_form ho6; have l6 := ho6.lt; have s6 := hb6.size; replace hB := bchain hB hb6; replace ho2 := own_below ho2 hb6; replace ho3 := own_below ho3 hb6; replace ho4 := own_below ho4 hb6)
  go_wp2_with (go_at_call 21; refine (eqInt64S_same _ _ _ _ _ _ _ (by omega) (Rd.of_own ho3) (Rd.of_own ho6)).mono ?_; rintro e w7 ⟨rfl, hb7⟩; have s7 := hb7.size; replace hB := bchain hB hb7; replace ho2 := own_below ho2 hb7; replace ho3 := own_below ho3 hb7; replace ho4 := own_below ho4 hb7)
  go_wp2_with (go_at_call 22; refine (markInt64S_any _ _ _ 1 _ _ (by omega) (by omega) ho3).mono ?_; rintro e w8 ⟨rfl, hm8, hg8⟩; have s8 := hg8.size; replace hB := below_grown hB hg8 (fun g h => by have := (l3 g h).1; omega); replace ho2 := own_apart ho2 w2.heap.size (fun g h => by have := (l2 g h).2; omega) (fun g h => by have := (l3 g h).1; omega) hg8; replace ho4 := own_after ho4 w3.heap.size (fun g h => by have := (l4 g h).1; omega) (fun g h => by have := (l3 g h).2; omega) hg8)
  go_wp2_with (go_at_call 21; refine (eqInt64S_same _ _ _ _ _ _ _ (by omega) (Rd.of_own ho4) (Rd.of_own ho2)).mono ?_; rintro e w9 ⟨rfl, hb9⟩; have s9 := hb9.size; replace hB := bchain hB hb9; replace ho2 := own_below ho2 hb9; replace ho4 := own_below ho4 hb9)
  go_wp2_with (go_at_call 22; refine (markInt64S_any _ _ _ 1 _ _ (by omega) (by omega) ho4).mono ?_; rintro e w10 ⟨rfl, hm10, hg10⟩; have s10 := hg10.size; replace hB := below_grown hB hg10 (fun g h => by have := (l4 g h).1; omega); replace ho2 := own_apart ho2 w3.heap.size (fun g h => by have := (l2 g h).2; omega) (fun g h => by have := (l4 g h).1; omega) hg10; replace ho4 := hm10)
  go_wp2_with (go_at_call 23; refine (heldInt64S_any _ _ _ 1 _ (by omega) (by omega) (Rd.of_own ho4)).mono ?_; rintro e w11 ⟨rfl, hb11⟩; have s11 := hb11.size; replace hB := bchain hB hb11; replace ho2 := own_below ho2 hb11; replace ho4 := own_below ho4 hb11)
  go_wp2_with (go_at_call 19; refine (toInt64S_any _ _ _ _ _ (by omega) ((KaP.below hB (Nat.le_refl _)).more hB.size)).mono ?_; rintro e w12 ⟨v12, rfl, ho12, hb12⟩; obtain ⟨A12, c12, rfl⟩ := own_form ho12; have l12 := ho12.lt; have s12 := hb12.size; replace hB := bchain hB hb12; replace ho2 := own_below ho2 hb12; replace ho4 := own_below ho4 hb12)
  go_wp2_with (go_at_call 38; refine (hI.out _ _ _ (Rd.of_own ho12)).mono ?_; rintro e w13 ⟨v13, rfl, ho13, hb13⟩; obtain ⟨A13, c13, rfl⟩ := own_form ho13; have l13 := ho13.lt; have s13 := hb13.size; replace hB := bchain hB hb13; replace ho2 := own_below ho2 hb13; replace ho4 := own_below ho4 hb13)
  go_wp2_with (go_at_call 21; refine (eqInt64S_same _ _ _ _ _ _ _ (by omega) (Rd.of_own ho13) (Rd.of_own ho2)).mono ?_; rintro e w14 ⟨rfl, hb14⟩; have s14 := hb14.size; replace hB := bchain hB hb14; replace ho4 := own_below ho4 hb14)
  go_wp2_with (go_at_call 23; refine (heldInt64S_any _ _ _ 1 _ (by omega) (by omega) (Rd.of_own ho4)).mono ?_; rintro e w15 ⟨rfl, hb15⟩; have s15 := hb15.size; replace hB := bchain hB hb15)
  go_ret
  exact ⟨rfl, (by repeat' (first | exact Below.refl _ _ | (with_reducible assumption) | (with_reducible refine Below.alloc ?_ ?_ _) | (with_reducible refine Below.setCell ?_ ?_ _) | (with_reducible refine Below.drew ?_) | (with_reducible refine below_drewN ?_ _) | (refine Below.trans ?_ (Below.mono (by assumption) ?_)) | (with_reducible exact Nat.le_refl _) | (with_reducible assumption) | (exact Below.size (by assumption)) | omega | go_size | (simp at *; omega)))⟩


end Go.Proofs.Ythbbfhlpoinenaa
