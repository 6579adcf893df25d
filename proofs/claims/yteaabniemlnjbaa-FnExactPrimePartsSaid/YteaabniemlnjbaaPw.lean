/- The walk of the law FnExactPrimeParts. -/
import Derived.Test.YteaabniemlnjbaaPp
namespace Go.Proofs.Yteaabniemlnjbaa
open Go.RowKit
set_option linter.unusedVariables false
theorem fnExactPrimeParts_walk (w : World) (aPA : Option Addr) (aPN aPC : Nat) (aP : List Int) (aPK : Came .i64 w aPA aPN aPC aP) :
    Calls Try.prog 8 #[.slice aPA aPN aPC] w fun e w' => e = .returned (.bool true) ∧ Below w.heap.size w w' := by
  by_cases hlong0 : 1048576 < aPN
  · have hmaP := aPK.2.1
    go_enter Try.func8, Try.ntmps8
    go_wp2
    go_ret
    exact ⟨rfl, (by repeat' (first | exact Below.refl _ _ | (with_reducible assumption) | (with_reducible refine Below.alloc ?_ ?_ _) | (with_reducible refine Below.setCell ?_ ?_ _) | (with_reducible refine Below.drew ?_) | (with_reducible refine below_drewN ?_ _) | (refine Below.trans ?_ (Below.mono (by assumption) ?_)) | (with_reducible exact Nat.le_refl _) | (with_reducible assumption) | (exact Below.size (by assumption)) | omega | go_size | (simp at *; omega)))⟩
  have KaP := Rd.of_came aPK
  have KLaP := KaP.len
  have B0aP := hid aPK
  have hS := hid (fun (AaP : Option Addr) (caP : Nat) (w1 : World) (kaP : Rd w1 w1.heap.size 1 AaP aPN (ints aP)) => specPrimeParts_any AaP aPN caP aP w1 (by omega) kaP)
  have hI := hid (fun (AaP : Option Addr) (caP : Nat) (w1 : World) (kaP : Rd w1 w1.heap.size 1 AaP aPN (ints aP)) => PrimeParts_any AaP aPN caP aP w1 (by omega) kaP)
  have hL := PrimeParts_len aP
  have hT := PrimeParts_tot aP
  have hR := PrimeParts_row aP
  generalize rPrimeParts aP = r at *
  obtain ⟨r0, r1⟩ := r
  try dsimp only at hL
  try dsimp only at hT
  try dsimp only at hR
  have hR := hid hR
  have hB := Below.refl w.heap.size w
  go_enter Try.func8, Try.ntmps8
  go_wp2_with (go_at_call 16; refine (toInt64S_any _ _ _ _ _ (by omega) ((KaP.below hB (Nat.le_refl _)).more hB.size)).mono ?_; rintro e w1 ⟨v1, rfl, ho1, hb1⟩; obtain ⟨A1, c1, rfl⟩ := own_form ho1; have l1 := ho1.lt; have s1 := hb1.size; replace hB := bchain hB hb1)
  go_wp2_with (go_at_call 32; refine (hS.out _ _ _ (Rd.of_own ho1)).mono ?_; rintro e w2 ⟨v2, rfl, ho2, hb2⟩; obtain ⟨A2, c2, rfl⟩ := Grid.form ho2; have l2 := Grid.lt ho2; have s2 := hb2.size; replace hB := bchain hB hb2)
  go_wp2_with (go_at_call 16; refine (toInt64S_any _ _ _ _ _ (by omega) ((KaP.below hB (Nat.le_refl _)).more hB.size)).mono ?_; rintro e w3 ⟨v3, rfl, ho3, hb3⟩; obtain ⟨A3, c3, rfl⟩ := own_form ho3; have l3 := ho3.lt; have s3 := hb3.size; replace hB := bchain hB hb3; replace ho2 := Grid.below ho2 hb3)
  go_wp2_with (go_at_call 33; refine (hI.out _ _ _ (Rd.of_own ho3)).mono ?_; rintro e w4 ⟨v4, rfl, ho4, hb4⟩; obtain ⟨A4, c4, rfl⟩ := Grid.form ho4; have l4 := Grid.lt ho4; have s4 := hb4.size; replace hB := bchain hB hb4; replace ho2 := Grid.below ho2 hb4; replace ho3 := own_below ho3 hb4)
  go_wp2_with (go_at_call 34; refine (eqInt64SS_same _ _ _ _ _ _ _ (by omega) (fun r h => Nat.le_trans (hR.out r h) (by omega)) (Grid.read ho4) (Grid.read ho2)).mono ?_; rintro e w5 ⟨rfl, hb5⟩; have s5 := hb5.size; replace hB := bchain hB hb5; replace ho2 := Grid.below ho2 hb5; replace ho3 := own_below ho3 hb5; replace ho4 := Grid.below ho4 hb5)
  go_wp2_with (go_at_call 16; refine (toInt64S_any _ _ _ _ _ (by omega) ((KaP.below hB (Nat.le_refl _)).more hB.size)).mono ?_; rintro e w6 ⟨v6, rfl, ho6, hb6⟩; obtain ⟨A6, c6, rfl⟩ := own_form ho6; have l6 := ho6.lt; have s6 := hb6.size; replace hB := bchain hB hb6; replace ho2 := Grid.below ho2 hb6; replace ho3 := own_below ho3 hb6; replace ho4 := Grid.below ho4 hb6)
  go_wp2_with (go_at_call 18; refine (eqInt64S_same _ _ _ _ _ _ _ (by omega) (Rd.of_own ho3) (Rd.of_own ho6)).mono ?_; rintro e w7 ⟨rfl, hb7⟩; have s7 := hb7.size; replace hB := bchain hB hb7; replace ho2 := Grid.below ho2 hb7; replace ho3 := own_below ho3 hb7; replace ho4 := Grid.below ho4 hb7)
  go_wp2_with (go_at_call 19; refine (markInt64S_any _ _ _ 1 _ _ (by omega) (by omega) ho3).mono ?_; rintro e w8 ⟨rfl, hm8, hg8⟩; have s8 := hg8.size; replace hB := below_grown hB hg8 (fun g h => by have := (l3 g h).1; omega); replace ho2 := Grid.off ho2 (fun g h => (l2 g h).2) (fun g h => .inr (by have := (l3 g h).1; omega)) hg8; replace ho4 := Grid.off ho4 (fun g h => (l4 g h).2) (fun g h => .inl (by have := (l3 g h).2; omega)) hg8)
  go_wp2_with (go_at_call 34; refine (eqInt64SS_same _ _ _ _ _ _ _ (by omega) (fun r h => Nat.le_trans (hR.out r h) (by omega)) (Grid.read ho4) (Grid.read ho2)).mono ?_; rintro e w9 ⟨rfl, hb9⟩; have s9 := hb9.size; replace hB := bchain hB hb9; replace ho2 := Grid.below ho2 hb9; replace ho4 := Grid.below ho4 hb9)
  go_wp2_with (go_at_call 35; refine (markInt64SS_any _ _ _ 1 _ _ (by omega) (by omega) ho4).mono ?_; rintro e w10 ⟨rfl, hm10, hb10⟩; have s10 := hb10.size; replace hB := hB.trans (hb10.mono (by omega)); replace ho2 := Grid.loM ho2 (fun g h => (l2 g h).2) hb10 (by omega); replace ho4 := hm10)
  go_wp2_with (go_at_call 36; refine (heldInt64SS_any _ _ _ 1 _ _ (by omega) (by omega) (Grid.read ho4)).mono ?_; rintro e w11 ⟨rfl, hb11⟩; have s11 := hb11.size; replace hB := bchain hB hb11; replace ho2 := Grid.below ho2 hb11; replace ho4 := Grid.below ho4 hb11)
  go_wp2_with (go_at_call 16; refine (toInt64S_any _ _ _ _ _ (by omega) ((KaP.below hB (Nat.le_refl _)).more hB.size)).mono ?_; rintro e w12 ⟨v12, rfl, ho12, hb12⟩; obtain ⟨A12, c12, rfl⟩ := own_form ho12; have l12 := ho12.lt; have s12 := hb12.size; replace hB := bchain hB hb12; replace ho2 := Grid.below ho2 hb12; replace ho4 := Grid.below ho4 hb12)
  go_wp2_with (go_at_call 33; refine (hI.out _ _ _ (Rd.of_own ho12)).mono ?_; rintro e w13 ⟨v13, rfl, ho13, hb13⟩; obtain ⟨A13, c13, rfl⟩ := Grid.form ho13; have l13 := Grid.lt ho13; have s13 := hb13.size; replace hB := bchain hB hb13; replace ho2 := Grid.below ho2 hb13; replace ho4 := Grid.below ho4 hb13)
  go_wp2_with (go_at_call 34; refine (eqInt64SS_same _ _ _ _ _ _ _ (by omega) (fun r h => Nat.le_trans (hR.out r h) (by omega)) (Grid.read ho13) (Grid.read ho2)).mono ?_; rintro e w14 ⟨rfl, hb14⟩; have s14 := hb14.size; replace hB := bchain hB hb14; replace ho4 := Grid.below ho4 hb14)
  go_wp2_with (go_at_call 36; refine (heldInt64SS_any _ _ _ 1 _ _ (by omega) (by omega) (Grid.read ho4)).mono ?_; rintro e w15 ⟨rfl, hb15⟩; have s15 := hb15.size; replace hB := bchain hB hb15)
  go_ret
  exact ⟨rfl, (by repeat' (first | exact Below.refl _ _ | (with_reducible assumption) | (with_reducible refine Below.alloc ?_ ?_ _) | (with_reducible refine Below.setCell ?_ ?_ _) | (with_reducible refine Below.drew ?_) | (with_reducible refine below_drewN ?_ _) | (refine Below.trans ?_ (Below.mono (by assumption) ?_)) | (with_reducible exact Nat.le_refl _) | (with_reducible assumption) | (exact Below.size (by assumption)) | omega | go_size | (simp at *; omega)))⟩

end Go.Proofs.Yteaabniemlnjbaa
