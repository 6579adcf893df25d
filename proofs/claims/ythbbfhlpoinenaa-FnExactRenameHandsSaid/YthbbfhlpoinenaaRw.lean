/- The walk of the law of RenameHands. -/
import Derived.Test.YthbbfhlpoinenaaRn
namespace Go.Proofs.Ythbbfhlpoinenaa
open Go.RowKit
set_option linter.unusedVariables false

set_option maxRecDepth 100000 in
set_option maxHeartbeats 2000000 in
theorem fnExactRenameHands_walk (w : World) (aOrderA : Option Addr) (aOrderN aOrderC : Nat) (aOrder : List Int) (aOrderK : Came .i64 w aOrderA aOrderN aOrderC aOrder) (aNamesA : Option Addr) (aNamesN aNamesC : Nat) (aNames : List Int) (aNamesK : Came .i64 w aNamesA aNamesN aNamesC aNames) :
    Calls Try.prog 4 #[.slice aOrderA aOrderN aOrderC, .slice aNamesA aNamesN aNamesC] w fun e w' => e = .returned (.bool true) ∧ Below w.heap.size w w' := by
  by_cases hlong0 : 1048576 < aOrderN
  · have hmaOrder := aOrderK.2.1
    go_enter Try.func4, Try.ntmps4
    go_wp2
    go_ret
    exact ⟨rfl, (by repeat' (first | exact Below.refl _ _ | (with_reducible assumption) | (with_reducible refine Below.alloc ?_ ?_ _) | (with_reducible refine Below.setCell ?_ ?_ _) | (with_reducible refine Below.drew ?_) | (with_reducible refine below_drewN ?_ _) | (refine Below.trans ?_ (Below.mono (by assumption) ?_)) | (with_reducible exact Nat.le_refl _) | (with_reducible assumption) | (exact Below.size (by assumption)) | omega | go_size | (simp at *; omega)))⟩
  by_cases hlong1 : 1048576 < aNamesN
  · have hmaOrder := aOrderK.2.1
    have hmaNames := aNamesK.2.1
    go_enter Try.func4, Try.ntmps4
    go_wp2
    go_ret
    exact ⟨rfl, (by repeat' (first | exact Below.refl _ _ | (with_reducible assumption) | (with_reducible refine Below.alloc ?_ ?_ _) | (with_reducible refine Below.setCell ?_ ?_ _) | (with_reducible refine Below.drew ?_) | (with_reducible refine below_drewN ?_ _) | (refine Below.trans ?_ (Below.mono (by assumption) ?_)) | (with_reducible exact Nat.le_refl _) | (with_reducible assumption) | (exact Below.size (by assumption)) | omega | go_size | (simp at *; omega)))⟩
  have KaOrder := Rd.of_came aOrderK
  have KLaOrder := KaOrder.len
  have KaNames := Rd.of_came aNamesK
  have KLaNames := KaNames.len
  have B0aOrder := hid aOrderK
  have B0aNames := hid aNamesK
  have hS := hid (fun (AaOrder : Option Addr) (caOrder : Nat) (AaNames : Option Addr) (caNames : Nat) (w1 : World) (kaOrder : Rd w1 w1.heap.size 1 AaOrder aOrderN (ints aOrder)) (kaNames : Rd w1 w1.heap.size 1 AaNames aNamesN (ints aNames)) => specRenameHands_any AaOrder aOrderN caOrder aOrder AaNames aNamesN caNames aNames w1 (by omega) kaOrder (by omega) kaNames)
  have hI := hid (fun (AaOrder : Option Addr) (caOrder : Nat) (AaNames : Option Addr) (caNames : Nat) (w1 : World) (kaOrder : Rd w1 w1.heap.size 1 AaOrder aOrderN (ints aOrder)) (kaNames : Rd w1 w1.heap.size 1 AaNames aNamesN (ints aNames)) => RenameHands_any AaOrder aOrderN caOrder aOrder AaNames aNamesN caNames aNames w1 (by omega) kaOrder (by omega) kaNames)
  have hL := RenameHands_len aOrder aNames
  generalize rRenameHands aOrder aNames = r at *
  obtain ⟨r0, r1⟩ := r
  try dsimp only at hL
  have hB := Below.refl w.heap.size w
  have KaOrder := hid KaOrder
  clear KLaOrder
  have KaNames := hid KaNames
  clear KLaNames
  go_enter Try.func4, Try.ntmps4
  go_wp2_with fail
  (refine (toInt64S_any _ _ _ _ _ (by omega) ((KaOrder.out.below hB (Nat.le_refl _)).more hB.size)).mono ?_; rintro e w1 ⟨v1, rfl, ho1, hb1⟩; obtain ⟨A1, c1, rfl⟩ := own_form ho1; have l1 := ho1.lt; have s1 := hb1.size; replace hB := bchain hB hb1)
  go_wp2_with fail
  (refine (toInt64S_any _ _ _ _ _ (by omega) ((KaNames.out.below hB (Nat.le_refl _)).more hB.size)).mono ?_; rintro e w2 ⟨v2, rfl, ho2, hb2⟩; obtain ⟨A2, c2, rfl⟩ := own_form ho2; have l2 := ho2.lt; have s2 := hb2.size; replace hB := bchain hB hb2; replace ho1 := own_below ho1 hb2)
  go_wp2_with fail
  (refine (hS.out _ _ _ _ _ (Rd.of_own ho1) (Rd.of_own ho2)).mono ?_; rintro e w3 ⟨v3, rfl, ho3, hb3⟩; obtain ⟨A3, c3, rfl⟩ := own_form ho3; have l3 := ho3.lt; have s3 := hb3.size; replace hB := bchain hB hb3)
  go_wp2_with fail
  (refine (toInt64S_any _ _ _ _ _ (by omega) ((KaOrder.out.below hB (Nat.le_refl _)).more hB.size)).mono ?_; rintro e w4 ⟨v4, rfl, ho4, hb4⟩; obtain ⟨A4, c4, rfl⟩ := own_form ho4; have l4 := ho4.lt; have s4 := hb4.size; replace hB := bchain hB hb4; replace ho3 := own_below ho3 hb4)
  go_wp2_with fail
  (refine (toInt64S_any _ _ _ _ _ (by omega) ((KaNames.out.below hB (Nat.le_refl _)).more hB.size)).mono ?_; rintro e w5 ⟨v5, rfl, ho5, hb5⟩; obtain ⟨A5, c5, rfl⟩ := own_form ho5; have l5 := ho5.lt; have s5 := hb5.size; replace hB := bchain hB hb5; replace ho3 := own_below ho3 hb5; replace ho4 := own_below ho4 hb5)
  go_wp2_with fail
  (refine (hI.out _ _ _ _ _ (Rd.of_own ho4) (Rd.of_own ho5)).mono ?_; rintro e w6 ⟨v6, rfl, ho6, hb6⟩; obtain ⟨A6, c6, rfl⟩ := own_form ho6; have l6 := ho6.lt; have s6 := hb6.size; replace hB := bchain hB hb6; replace ho3 := own_below ho3 hb6; replace ho4 := own_below ho4 hb6; replace ho5 := own_below ho5 hb6)
  go_wp2_with fail
  (refine (eqInt64S_same _ _ _ _ _ _ _ (by omega) (Rd.of_own ho6) (Rd.of_own ho3)).mono ?_; rintro e w7 ⟨rfl, hb7⟩; have s7 := hb7.size; replace hB := bchain hB hb7; replace ho3 := own_below ho3 hb7; replace ho4 := own_below ho4 hb7; replace ho5 := own_below ho5 hb7; replace ho6 := own_below ho6 hb7)
  go_wp2_with fail
  (refine (toInt64S_any _ _ _ _ _ (by omega) ((KaOrder.out.below hB (Nat.le_refl _)).more hB.size)).mono ?_; rintro e w8 ⟨v8, rfl, ho8, hb8⟩; obtain ⟨A8, c8, rfl⟩ := own_form ho8; have l8 := ho8.lt; have s8 := hb8.size; replace hB := bchain hB hb8; replace ho3 := own_below ho3 hb8; replace ho4 := own_below ho4 hb8; replace ho5 := own_below ho5 hb8; replace ho6 := own_below ho6 hb8)
  go_wp2_with fail
  (refine (eqInt64S_same _ _ _ _ _ _ _ (by omega) (Rd.of_own ho4) (Rd.of_own ho8)).mono ?_; rintro e w9 ⟨rfl, hb9⟩; have s9 := hb9.size; replace hB := bchain hB hb9; replace ho3 := own_below ho3 hb9; replace ho4 := own_below ho4 hb9; replace ho5 := own_below ho5 hb9; replace ho6 := own_below ho6 hb9)
  go_wp2_with fail
  (refine (toInt64S_any _ _ _ _ _ (by omega) ((KaNames.out.below hB (Nat.le_refl _)).more hB.size)).mono ?_; rintro e w10 ⟨v10, rfl, ho10, hb10⟩; obtain ⟨A10, c10, rfl⟩ := own_form ho10; have l10 := ho10.lt; have s10 := hb10.size; replace hB := bchain hB hb10; replace ho3 := own_below ho3 hb10; replace ho4 := own_below ho4 hb10; replace ho5 := own_below ho5 hb10; replace ho6 := own_below ho6 hb10)
  go_wp2_with fail
  (refine (eqInt64S_same _ _ _ _ _ _ _ (by omega) (Rd.of_own ho5) (Rd.of_own ho10)).mono ?_; rintro e w11 ⟨rfl, hb11⟩; have s11 := hb11.size; replace hB := bchain hB hb11; replace ho3 := own_below ho3 hb11; replace ho4 := own_below ho4 hb11; replace ho5 := own_below ho5 hb11; replace ho6 := own_below ho6 hb11)
  go_wp2_with fail
  (refine (markInt64S_any _ _ _ 1 _ _ (by omega) (by omega) ho4).mono ?_; rintro e w12 ⟨rfl, hm12, hg12⟩; have s12 := hg12.size; replace hB := below_grown hB hg12 (fun g h => by have := (l4 g h).1; omega); replace ho3 := own_apart ho3 w3.heap.size (fun g h => by have := (l3 g h).2; omega) (fun g h => by have := (l4 g h).1; omega) hg12; replace ho5 := own_after ho5 w4.heap.size (fun g h => by have := (l5 g h).1; omega) (fun g h => by have := (l4 g h).2; omega) hg12; replace ho6 := own_after ho6 w5.heap.size (fun g h => by have := (l6 g h).1; omega) (fun g h => by have := (l4 g h).2; omega) hg12)
  go_wp2_with fail
  (refine (markInt64S_at _ _ _ _ _ _ (1 + aOrderN) (by omega) (by omega) (by omega) ho5).mono ?_; rintro e w13 ⟨rfl, hm13, hg13⟩; have s13 := hg13.size; replace hB := below_grown hB hg13 (fun g h => by have := (l5 g h).1; omega); replace ho3 := own_apart ho3 w4.heap.size (fun g h => by have := (l3 g h).2; omega) (fun g h => by have := (l5 g h).1; omega) hg13; replace ho6 := own_after ho6 w5.heap.size (fun g h => by have := (l6 g h).1; omega) (fun g h => by have := (l5 g h).2; omega) hg13)
  go_wp2_with fail
  (refine (eqInt64S_same _ _ _ _ _ _ _ (by omega) (Rd.of_own ho6) (Rd.of_own ho3)).mono ?_; rintro e w14 ⟨rfl, hb14⟩; have s14 := hb14.size; replace hB := bchain hB hb14; replace ho3 := own_below ho3 hb14; replace ho6 := own_below ho6 hb14)
  go_wp2_with fail
  (refine (markInt64S_any _ _ _ 1 _ _ (by omega) (by omega) ho6).mono ?_; rintro e w15 ⟨rfl, hm15, hg15⟩; have s15 := hg15.size; replace hB := below_grown hB hg15 (fun g h => by have := (l6 g h).1; omega); replace ho3 := own_apart ho3 w5.heap.size (fun g h => by have := (l3 g h).2; omega) (fun g h => by have := (l6 g h).1; omega) hg15; replace ho6 := hm15)
  go_wp2_with fail
  (refine (heldInt64S_any _ _ _ 1 _ (by omega) (by omega) (Rd.of_own ho6)).mono ?_; rintro e w16 ⟨rfl, hb16⟩; have s16 := hb16.size; replace hB := bchain hB hb16; replace ho3 := own_below ho3 hb16; replace ho6 := own_below ho6 hb16)
  go_wp2_with fail
  (refine (toInt64S_any _ _ _ _ _ (by omega) ((KaOrder.out.below hB (Nat.le_refl _)).more hB.size)).mono ?_; rintro e w17 ⟨v17, rfl, ho17, hb17⟩; obtain ⟨A17, c17, rfl⟩ := own_form ho17; have l17 := ho17.lt; have s17 := hb17.size; replace hB := bchain hB hb17; replace ho3 := own_below ho3 hb17; replace ho6 := own_below ho6 hb17)
  go_wp2_with fail
  (refine (toInt64S_any _ _ _ _ _ (by omega) ((KaNames.out.below hB (Nat.le_refl _)).more hB.size)).mono ?_; rintro e w18 ⟨v18, rfl, ho18, hb18⟩; obtain ⟨A18, c18, rfl⟩ := own_form ho18; have l18 := ho18.lt; have s18 := hb18.size; replace hB := bchain hB hb18; replace ho3 := own_below ho3 hb18; replace ho6 := own_below ho6 hb18; replace ho17 := own_below ho17 hb18)
  go_wp2_with fail
  (refine (hI.out _ _ _ _ _ (Rd.of_own ho17) (Rd.of_own ho18)).mono ?_; rintro e w19 ⟨v19, rfl, ho19, hb19⟩; obtain ⟨A19, c19, rfl⟩ := own_form ho19; have l19 := ho19.lt; have s19 := hb19.size; replace hB := bchain hB hb19; replace ho3 := own_below ho3 hb19; replace ho6 := own_below ho6 hb19)
  go_wp2_with fail
  (refine (eqInt64S_same _ _ _ _ _ _ _ (by omega) (Rd.of_own ho19) (Rd.of_own ho3)).mono ?_; rintro e w20 ⟨rfl, hb20⟩; have s20 := hb20.size; replace hB := bchain hB hb20; replace ho6 := own_below ho6 hb20)
  go_wp2_with fail
  (refine (heldInt64S_any _ _ _ 1 _ (by omega) (by omega) (Rd.of_own ho6)).mono ?_; rintro e w21 ⟨rfl, hb21⟩; have s21 := hb21.size; replace hB := bchain hB hb21)
  go_wp2_with fail
  go_ret
  exact ⟨rfl, (by repeat' (first | exact Below.refl _ _ | (with_reducible assumption) | (with_reducible refine Below.alloc ?_ ?_ _) | (with_reducible refine Below.setCell ?_ ?_ _) | (with_reducible refine Below.drew ?_) | (with_reducible refine below_drewN ?_ _) | (refine Below.trans ?_ (Below.mono (by assumption) ?_)) | (with_reducible exact Nat.le_refl _) | (with_reducible assumption) | (exact Below.size (by assumption)) | omega | go_size | (simp at *; omega)))⟩


end Go.Proofs.Ythbbfhlpoinenaa
