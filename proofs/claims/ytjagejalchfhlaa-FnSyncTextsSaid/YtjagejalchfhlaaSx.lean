/- The walk of the law FnSyncTexts. -/
import Derived.Test.YtjagejalchfhlaaZd
import Derived.Test.YtjagejalchfhlaaF6
import Derived.Test.YtjagejalchfhlaaCo
namespace Go.Proofs.Ytjagejalchfhlaa
open Go.RowKit
set_option linter.unusedVariables false

theorem same_bts {p : List Beat} : decide (p = p) = true := decide_eq_true rfl
theorem rStar_len (q : List Beat) : (rStarSync q).1.length ≤ 6 := by
  unfold rStarSync
  split
  · split
    · simp
    · split
      · show (q ++ mirP q).length ≤ _; rw [List.length_append, mirP_len]; omega
      · simp
  · simp
theorem rRead_len (l : List UInt8) : (rReadSync l).1.length ≤ 6 := by
  by_cases h : l.getLast? = some 42
  · rw [rRead_star h]
    cases rdB l.dropLast with
    | none => exact Nat.zero_le _
    | some p => exact rStar_len p
  · rw [rRead_else h]
    cases hr : rdB l with
    | none => exact Nat.zero_le _
    | some p =>
      show (if syOk p then (p, true) else ([], false)).1.length ≤ 6
      split
      · exact (beatsOk_iff.1 (rdB_ok hr)).2.2
      · exact Nat.zero_le _
theorem read_empty : rReadSync (tl (⟨#[]⟩ : ByteArray)) = ([], false) := rfl
set_option maxRecDepth 100000 in
set_option maxHeartbeats 4000000 in
theorem fnSyncTexts_main (w : World) (A : Option Addr) (n c : Nat) (xs : List Int) (hK : Came .u8 w A n c xs) (hl : n ≤ 4096) :
    Calls Try.prog 6 #[.slice A n c] w fun e w' => e = .returned (.bool true) ∧ Below w.heap.size w w' := by
  have hq : decide (4096 < n) = false := by simp; omega
  have hL := f6big_any A n c w (by omega)
  rw [hq] at hL
  have hL := hid hL
  have hR := hid (fun (w1 : World) (b : Below w.heap.size w w1) => ((Rd.of_came hK).below b (Nat.le_refl _)).more b.size)
  have hX := hid hK.bytes
  have hB : Below w.heap.size w w := Below.refl _ _
  clear hK hq
  go_enter Try.func6, Try.ntmps6
  go_wp2_with (go_at_call 11; refine (hL.out).mono ?_; rintro e w' ⟨rfl, rfl⟩)
  refine (DrawSyncText_any A n c xs _ (by omega) hX.out (hR.out _ hB)).mono ?_
  rintro e w1 ⟨v1, rfl, ⟨p, hpl, ho1⟩, hb1⟩
  replace hB := bchain hB hb1
  have z1 := hB.size
  obtain ⟨A1, c1, rfl, hA1⟩ := own_form3 ho1
  have HA1 := hid hA1
  clear hA1 hb1
  obtain ⟨T, hT⟩ : ∃ T, st (rSyncText p) = T := ⟨_, rfl⟩
  have hTs : T.size ≤ 60 := by
    rw [← hT, st_size]; unfold rSyncText; split
    · have := syT_len p; omega
    · simp
  have hTT := toList_eqq T
  have HT := hid hT
  clear hT
  have hC := SyncText_any A1 p.length c1 p w1 (by omega) (Rd.of_own ho1)
  rw [HT.out] at hC
  go_wp2_with fail
  refine (hC).mono ?_
  rintro e w2 ⟨rfl, hb2⟩
  replace ho1 := own_below ho1 hb2
  replace hB := bchain hB hb2
  have z2 := hB.size
  clear hC
  clear hb2 z1
  cases hp : syOk p with
  | true =>
    have HBK : Hid (rReadSync (tl T) = (p, true)) := by show _ = _; rw [← HT.out, tl_st, rSyncText, hp]; exact read_text hp
    have HST : Hid (rReadSync (tl (T ++ ⟨#[42]⟩)) = ((rStarSync p).1, (rStarSync p).2 == 0)) := by
      show _ = _
      rw [tl_append, ← HT.out, tl_st, rSyncText, hp]; exact read_star hp
    have hiE : T.toList.isEmpty = false := by
      rw [tl_empty, ← HT.out, tl_st, rSyncText, hp]; exact decide_eq_false (syT_ne hp)
    clear hp
    have hC := ReadSync_any T w2 (by omega)
    rw [HBK.out] at hC
    have hC := hid hC
    go_wp2_with fail
    refine (hC.out).mono ?_
    rintro e w3 ⟨⟨A2, c2, hA2, rfl, ho2⟩, hb3⟩
    replace ho1 := own_below ho1 hb3
    replace hB := bchain hB hb3
    have z3 := hB.size
    clear hC hA2
    simp only at ho2
    clear hb3 z2
    go_wp2_with fail
    refine (DrawReadSync_any A n c xs _ (by omega) hX.out (hR.out _ hB)).mono ?_
    rintro e w4 ⟨⟨S, hS, rfl⟩, hb4⟩
    replace ho1 := own_below ho1 hb4; replace ho2 := own_below ho2 hb4
    replace hB := bchain hB hb4
    have z4 := hB.size
    clear hb4
    have hRl := rRead_len (tl S)
    obtain ⟨⟨R, one⟩, hR2⟩ : ∃ x, rReadSync (tl S) = x := ⟨_, rfl⟩
    rw [hR2] at hRl
    dsimp only at hRl
    have HR := hid hR2
    clear hR2
    have hC := ReadSync_any S w4 (by omega)
    rw [HR.out] at hC
    have hC := hid hC
    go_wp2_with fail
    refine (hC.out).mono ?_
    rintro e w5 ⟨⟨A3, c3, hA3, rfl, ho3⟩, hb5⟩
    replace ho1 := own_below ho1 hb5; replace ho2 := own_below ho2 hb5
    replace hB := bchain hB hb5
    have z5 := hB.size
    clear hC hA3
    simp only at ho3
    clear hb5 z4
    have hC := specReadSync_any S w5 (by omega)
    rw [HR.out] at hC
    have hC := hid hC
    go_wp2_with fail
    refine (hC.out).mono ?_
    rintro e w6 ⟨⟨A4, c4, hA4, rfl, ho4⟩, hb6⟩
    replace ho1 := own_below ho1 hb6; replace ho2 := own_below ho2 hb6; replace ho3 := own_below ho3 hb6
    replace hB := bchain hB hb6
    have z6 := hB.size
    clear hC hA4
    simp only at ho4
    clear hb6 z5
    have hC := specSyncText_any A1 p.length c1 p w6 (by omega) (Rd.of_own ho1)
    rw [HT.out] at hC
    have q1 := bool_bne one
    go_wp2_with fail
    refine (hC).mono ?_
    rintro e w7 ⟨rfl, hb7⟩
    replace ho1 := own_below ho1 hb7; replace ho2 := own_below ho2 hb7; replace ho3 := own_below ho3 hb7; replace ho4 := own_below ho4 hb7
    replace hB := bchain hB hb7
    have z7 := hB.size
    clear hC
    clear hb7 z6
    have hC := specSameSync_any A2 A1 p.length p.length c2 c1 p p w7 (by omega) (by omega) (Rd.of_own ho2) (Rd.of_own ho1)
    rw [same_bts] at hC
    go_wp2_with fail
    refine (hC).mono ?_
    rintro e w8 ⟨rfl, hb8⟩
    replace ho1 := own_below ho1 hb8; replace ho2 := own_below ho2 hb8; replace ho3 := own_below ho3 hb8; replace ho4 := own_below ho4 hb8
    replace hB := bchain hB hb8
    have z8 := hB.size
    clear hC
    clear hb8 z7
    have hC := specSameSync_any A3 A4 R.length R.length c3 c4 R R w8 (by omega) (by omega) (Rd.of_own ho3) (Rd.of_own ho4)
    rw [same_bts] at hC
    go_wp2_with fail
    refine (hC).mono ?_
    rintro e w9 ⟨rfl, hb9⟩
    replace ho1 := own_below ho1 hb9; replace ho2 := own_below ho2 hb9; replace ho3 := own_below ho3 hb9; replace ho4 := own_below ho4 hb9
    replace hB := bchain hB hb9
    have z9 := hB.size
    clear hC
    clear hb9 z8
    clear ho3 ho4 ho2
    have hZl := rStar_len p
    obtain ⟨⟨Z, sc⟩, hZ⟩ : ∃ x, rStarSync p = x := ⟨_, rfl⟩
    rw [hZ] at hZl
    dsimp only at hZl
    have HZ := hid hZ
    have HST2 : Hid (rReadSync (tl (T ++ ⟨#[42]⟩)) = (Z, sc == 0)) := by have := HST.out; rw [hZ] at this; exact this
    clear hZ HST
    have hC := StarSync_any A1 p.length c1 p w9 (by omega) HA1.out (Rd.of_own ho1)
    rw [HZ.out] at hC
    have q2 : ((sc == 0) == (sc == 0)) = true := by simp
    go_wp2_with fail
    refine (hC).mono ?_
    rintro e w10 ⟨⟨A5, c5, hA5, rfl, ho5⟩, hb10⟩
    replace ho1 := own_below ho1 hb10
    replace hB := bchain hB hb10
    have z10 := hB.size
    clear hC hA5
    simp only at ho5
    clear hb10 z9
    have hC := ReadSync_any (T ++ ⟨#[42]⟩) w10 (by rw [ByteArray.size_append]; have : (⟨#[42]⟩ : ByteArray).size = 1 := rfl; omega)
    rw [HST2.out] at hC
    have hC := hid hC
    go_wp2_with fail
    refine (hC.out).mono ?_
    rintro e w11 ⟨⟨A6, c6, hA6, rfl, ho6⟩, hb11⟩
    replace ho1 := own_below ho1 hb11; replace ho5 := own_below ho5 hb11
    replace hB := bchain hB hb11
    have z11 := hB.size
    clear hC hA6
    simp only at ho6
    clear hb11 z10
    have hC := specSameSync_any A6 A5 Z.length Z.length c6 c5 Z Z w11 (by omega) (by omega) (Rd.of_own ho6) (Rd.of_own ho5)
    rw [same_bts] at hC
    go_wp2_with fail
    refine (hC).mono ?_
    rintro e w12 ⟨rfl, hb12⟩
    replace ho1 := own_below ho1 hb12; replace ho5 := own_below ho5 hb12; replace ho6 := own_below ho6 hb12
    replace hB := bchain hB hb12
    have z12 := hB.size
    clear hC
    clear hb12 z11
    go_wp2
    go_ret
    exact ⟨rfl, hB⟩
  | false =>
    have hT0 : T = ⟨#[]⟩ := by rw [← HT.out, rSyncText, hp]; rfl
    subst hT0
    have HBK : Hid (rReadSync (tl (⟨#[]⟩ : ByteArray)) = (([] : List Beat), false)) := by show _ = _; exact read_empty
    clear hp
    have hC := ReadSync_any ⟨#[]⟩ w2 (by omega)
    rw [HBK.out] at hC
    have hC := hid hC
    go_wp2_with fail
    refine (hC.out).mono ?_
    rintro e w3 ⟨⟨A2, c2, hA2, rfl, ho2⟩, hb3⟩
    replace ho1 := own_below ho1 hb3
    replace hB := bchain hB hb3
    have z3 := hB.size
    clear hC hA2
    simp only at ho2
    clear hb3 z2
    go_wp2_with fail
    refine (DrawReadSync_any A n c xs _ (by omega) hX.out (hR.out _ hB)).mono ?_
    rintro e w4 ⟨⟨S, hS, rfl⟩, hb4⟩
    replace ho1 := own_below ho1 hb4; replace ho2 := own_below ho2 hb4
    replace hB := bchain hB hb4
    have z4 := hB.size
    clear hb4
    have hRl := rRead_len (tl S)
    obtain ⟨⟨R, one⟩, hR2⟩ : ∃ x, rReadSync (tl S) = x := ⟨_, rfl⟩
    rw [hR2] at hRl
    dsimp only at hRl
    have HR := hid hR2
    clear hR2
    have hC := ReadSync_any S w4 (by omega)
    rw [HR.out] at hC
    have hC := hid hC
    go_wp2_with fail
    refine (hC.out).mono ?_
    rintro e w5 ⟨⟨A3, c3, hA3, rfl, ho3⟩, hb5⟩
    replace ho1 := own_below ho1 hb5; replace ho2 := own_below ho2 hb5
    replace hB := bchain hB hb5
    have z5 := hB.size
    clear hC hA3
    simp only at ho3
    clear hb5 z4
    have hC := specReadSync_any S w5 (by omega)
    rw [HR.out] at hC
    have hC := hid hC
    go_wp2_with fail
    refine (hC.out).mono ?_
    rintro e w6 ⟨⟨A4, c4, hA4, rfl, ho4⟩, hb6⟩
    replace ho1 := own_below ho1 hb6; replace ho2 := own_below ho2 hb6; replace ho3 := own_below ho3 hb6
    replace hB := bchain hB hb6
    have z6 := hB.size
    clear hC hA4
    simp only at ho4
    clear hb6 z5
    have hC := specSyncText_any A1 p.length c1 p w6 (by omega) (Rd.of_own ho1)
    rw [HT.out] at hC
    have q1 := bool_bne one
    go_wp2_with fail
    refine (hC).mono ?_
    rintro e w7 ⟨rfl, hb7⟩
    replace ho1 := own_below ho1 hb7; replace ho2 := own_below ho2 hb7; replace ho3 := own_below ho3 hb7; replace ho4 := own_below ho4 hb7
    replace hB := bchain hB hb7
    have z7 := hB.size
    clear hC
    clear hb7 z6
    have hC := specSameSync_any A3 A4 R.length R.length c3 c4 R R w7 (by omega) (by omega) (Rd.of_own ho3) (Rd.of_own ho4)
    rw [same_bts] at hC
    go_wp2_with fail
    refine (hC).mono ?_
    rintro e w8 ⟨rfl, hb8⟩
    replace ho1 := own_below ho1 hb8; replace ho2 := own_below ho2 hb8; replace ho3 := own_below ho3 hb8; replace ho4 := own_below ho4 hb8
    replace hB := bchain hB hb8
    have z8 := hB.size
    clear hC
    clear hb8 z7
    clear ho3 ho4 ho2
    go_wp2
    go_ret
    exact ⟨rfl, hB⟩
set_option maxRecDepth 100000 in
theorem fnSyncTexts_walk (w : World) (A : Option Addr) (n c : Nat) (xs : List Int) (hK : Came .u8 w A n c xs) :
    Calls Try.prog 6 #[.slice A n c] w fun e w' => e = .returned (.bool true) ∧ Below w.heap.size w w' := by
  by_cases h : n ≤ 4096
  · exact fnSyncTexts_main w A n c xs hK h
  · have hq : decide (4096 < n) = true := by simp; omega
    have h1 := hK.2.1; have h2 := hK.2.2.1
    unfold maxLen at h2
    have hL := f6big_any A n c w (by omega)
    rw [hq] at hL
    have hL := hid hL
    clear hK h hq
    go_enter Try.func6, Try.ntmps6
    go_wp2_with (go_at_call 11; refine (hL.out).mono ?_; rintro e w' ⟨rfl, rfl⟩)
    go_ret
    exact ⟨rfl, (by repeat' (first | exact Below.refl _ _ | (with_reducible assumption) | (with_reducible refine Below.alloc ?_ ?_ _) | (with_reducible refine Below.setCell ?_ ?_ _) | (with_reducible refine Below.drew ?_) | (with_reducible refine below_drewN ?_ _) | (refine Below.trans ?_ (Below.mono (by assumption) ?_)) | (with_reducible exact Nat.le_refl _) | (with_reducible assumption) | (exact Below.size (by assumption)) | omega | go_size | (simp at *; omega)))⟩
end Go.Proofs.Ytjagejalchfhlaa
