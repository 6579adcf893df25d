/- The walk of the law FnHandTexts. -/
import Derived.Test.YtopakpgmmfkcnaaHd
namespace Go.Proofs.Ytopakpgmmfkcnaa
open Go.RowKit
set_option linter.unusedVariables false

theorem hands_back (S : ByteArray) : (rReadHands S).2 = true → rHandsText (rReadHands S).1 = S := by
  unfold rReadHands
  split
  · rename_i h
    intro _
    show rHandsText (rdH S.data.toList) = S
    rw [rHandsText, if_pos h]
    have e : (rdH S.data.toList).map (97 + ·) = S.data.toList.map fun b => (b.toNat : Int) := by
      rw [rdH, List.map_map]
      refine List.map_congr_left fun b _ => ?_
      show 97 + ((b.toNat : Int) - 97) = _
      omega
    rw [e]
    unfold strOfNums
    rw [List.map_map]
    have e2 : ∀ b ∈ S.data.toList, ((fun n => UInt8.ofNat (Int.toNat n)) ∘ fun b => ((UInt8.toNat b : Nat) : Int)) b = b := by
      intro b _
      show UInt8.ofNat ((b.toNat : Int)).toNat = b
      rw [Int.toNat_natCast, UInt8.ofNat_toNat]
    rw [List.map_congr_left e2, List.map_id']
  · intro h; cases h
theorem hands_there {p : List Int} (h : hdOk p = true) : rReadHands (rHandsText p) = (p, true) := by
  have hb : ∀ x ∈ p, 0 ≤ x ∧ x ≤ 3 := by
    simp only [hdOk, Bool.and_eq_true, List.all_eq_true, betweenB_iff] at h
    exact h.1.1
  have e : rdH (rHandsText p).data.toList = p := by
    rw [rHandsText, if_pos h, strOfNums_data, rdH, List.map_map, List.map_map]
    have e2 : ∀ x ∈ p, (((fun b => ((UInt8.toNat b : Nat) : Int) - 97) ∘ fun n => UInt8.ofNat (Int.toNat n)) ∘ fun x => 97 + x) x = x := by
      intro x hx
      obtain ⟨x0, x1⟩ := hb x hx
      show (((UInt8.ofNat (97 + x).toNat).toNat : Nat) : Int) - 97 = x
      rw [UInt8.toNat_ofNat', Nat.mod_eq_of_lt (by omega), Int.toNat_of_nonneg (by omega)]
      omega
    rw [List.map_congr_left e2, List.map_id']
  simp [rReadHands, e, h]
set_option maxRecDepth 100000 in
set_option maxHeartbeats 4000000 in
theorem fnHandTexts_main (w : World) (A : Option Addr) (n c : Nat) (xs : List Int) (hK : Came .u8 w A n c xs) (hl : n ≤ 4096) :
    Calls Try.prog 3 #[.slice A n c] w fun e w' => e = .returned (.bool true) ∧ Below w.heap.size w w' := by
  have hq : decide (4096 < n) = false := by simp; omega
  have hL := f6big_any A n c w (by omega)
  rw [hq] at hL
  have hL := hid hL
  have hD := hid (DrawHandsText_any A n c xs w (by omega) hK.bytes (Rd.of_came hK))
  have hD2 := hid (fun (w1 : World) (b : Below w.heap.size w w1) => DrawReadHands_any A n c xs w1 (by omega) hK.bytes (((Rd.of_came hK).below b (Nat.le_refl _)).more b.size))
  clear hK hq
  go_enter Try.func3, Try.ntmps3
  go_wp2_with (go_at_call 5; refine (hL.out).mono ?_; rintro e w' ⟨rfl, rfl⟩)
  refine hD.out.mono ?_
  rintro e w1 ⟨v1, rfl, ⟨p, hpl, ho1⟩, hB⟩
  obtain ⟨A1, c1, rfl⟩ := own_form ho1
  clear hD hL
  have hC := HandsText_any A1 p.length c1 p w1 (by omega) (Rd.of_own ho1)
  have hback := fun (h : hdOk p = true) => hands_there h
  have hTz : (rHandsText p).size ≤ 13 := by
    unfold rHandsText
    split
    · rw [strOfNums_size, List.length_map]; exact hpl
    · exact Nat.zero_le _
  have hTne : hdOk p = true → ¬ (rHandsText p).size = 0 := fun h => by
    have := hd_len h
    rw [rHandsText, if_pos h, strOfNums_size, List.length_map]; omega
  have hTe : hdOk p = false → rHandsText p = ⟨#[]⟩ := fun h => by simp [rHandsText, h]
  obtain ⟨T, hT⟩ : ∃ T, rHandsText p = T := ⟨_, rfl⟩
  rw [hT] at hC hback hTz hTne hTe
  have HT := hid hT
  have hC := hid hC
  have hTT : (T.toList == T.toList) = true := by simp
  clear hT
  cases hd : hdOk p with
  | true =>
    have HBK := hid (hback hd)
    have hiE := toList_ne (hTne hd)
    clear hback hTne hTe hd
    go_wp2_with fail
    refine hC.out.mono ?_
    clear hC
    rintro e w2 ⟨rfl, hb2⟩
    have ho1 := own_below ho1 hb2
    replace hB := bchain hB hb2
    clear hb2
    have hC := ReadHands_any T (by omega) w2
    rw [HBK.out] at hC
    have hC := hid hC
    go_wp2_with fail
    refine hC.out.mono ?_
    clear hC
    rintro e w3 ⟨v3, rfl, ho3, hb3⟩
    have ho3 : w3.ownsRow w2.heap.size 2 1 v3 p.length (ints p) := ho3
    obtain ⟨A3, c3, rfl⟩ := own_form ho3
    have ho1 := own_below ho1 hb3
    replace hB := bchain hB hb3
    clear hb3
    go_wp2_with fail
    refine (hD2.out w3 hB).mono ?_
    rintro e w4 ⟨⟨S, hS, rfl⟩, hb4⟩
    have ho1 := own_below ho1 hb4
    have ho3 := own_below ho3 hb4
    replace hB := bchain hB hb4
    clear hb4
    have hRS := ReadHands_any S (by omega) w4
    have hSz : (rReadHands S).1.length ≤ 12 := ReadHands_len S
    have hRT : (rReadHands S).2 = true → rHandsText (rReadHands S).1 = S := hands_back S
    obtain ⟨⟨R, one⟩, hR⟩ : ∃ x, rReadHands S = x := ⟨_, rfl⟩
    rw [hR] at hRS hSz hRT
    dsimp only at hRS hSz hRT
    have HR := hid hR
    have hRS := hid hRS
    have hRT := hid hRT
    clear hR
    go_wp2_with fail
    refine hRS.out.mono ?_
    clear hRS
    rintro e w5 ⟨v5, rfl, ho5, hb5⟩
    obtain ⟨A5, c5, rfl⟩ := own_form ho5
    have ho1 := own_below ho1 hb5
    have ho3 := own_below ho3 hb5
    replace hB := bchain hB hb5
    clear hb5
    have hRS := specReadHands_any S (by omega) w5
    rw [HR.out] at hRS
    have hRS := hid hRS
    go_wp2_with fail
    refine hRS.out.mono ?_
    clear hRS
    rintro e w6 ⟨v6, rfl, ho6, hb6⟩
    have ho6 : w6.ownsRow w5.heap.size 2 1 v6 R.length (ints R) := ho6
    obtain ⟨A6, c6, rfl⟩ := own_form ho6
    have ho1 := own_below ho1 hb6
    have ho3 := own_below ho3 hb6
    have ho5 := own_below ho5 hb6
    replace hB := bchain hB hb6
    clear hb6
    have hC := specHandsText_any A1 p.length c1 p w6 (by omega) (Rd.of_own ho1)
    rw [HT.out] at hC
    have hC := hid hC
    go_wp2_with fail
    refine hC.out.mono ?_
    clear hC
    rintro e w7 ⟨rfl, hb7⟩
    have ho1 := own_below ho1 hb7
    have ho3 := own_below ho3 hb7
    have ho5 := own_below ho5 hb7
    have ho6 := own_below ho6 hb7
    replace hB := bchain hB hb7
    clear hb7
    have hC := f6ints_any A3 A1 p.length p.length c3 c1 p p w7 (by omega) (by omega) (Rd.of_own ho3) (Rd.of_own ho1)
    rw [decide_eq_true rfl] at hC
    have hC := hid hC
    have hoo : (one == one) = true := by simp
    go_wp2_with fail
    refine hC.out.mono ?_
    clear hC
    rintro e w7 ⟨rfl, hb7⟩
    have ho1 := own_below ho1 hb7
    have ho5 := own_below ho5 hb7
    have ho6 := own_below ho6 hb7
    replace hB := bchain hB hb7
    clear hb7 ho3
    cases one
    · skip
      have hC := f6ints_any A5 A6 R.length R.length c5 c6 R R w7 (by omega) (by omega) (Rd.of_own ho5) (Rd.of_own ho6)
      rw [decide_eq_true rfl] at hC
      have hC := hid hC
      go_wp2_with fail
      refine hC.out.mono ?_
      clear hC
      rintro e w8 ⟨rfl, hb8⟩
      have ho1 := own_below ho1 hb8
      have ho5 := own_below ho5 hb8
      replace hB := bchain hB hb8
      clear hb8 ho6
      obtain ⟨w9, rfl⟩ : ∃ w9 : World, w9 = w8 := ⟨_, rfl⟩
      have hC := ValidHands_any A1 p.length c1 p w9 (by omega) (Rd.of_own ho1)
      obtain ⟨vb, hvb⟩ : ∃ vb, hdOk p = vb := ⟨_, rfl⟩
      rw [hvb] at hC
      have HVB := hid hvb
      have hC := hid hC
      clear hvb
      go_wp2_with fail
      refine hC.out.mono ?_
      clear hC
      rintro e w10 ⟨rfl, hb10⟩
      have ho1 := own_below ho1 hb10
      replace hB := bchain hB hb10
      clear hb10
      have hC := specValidHands_any A1 p.length c1 p w10 (by omega) (Rd.of_own ho1)
      rw [HVB.out] at hC
      have hC := hid hC
      have hvv : (vb == vb) = true := by simp
      go_wp2_with fail
      refine hC.out.mono ?_
      clear hC
      rintro e w11 ⟨rfl, hb11⟩
      replace hB := bchain hB hb11
      go_wp2
      go_ret
      exact ⟨rfl, hB⟩
    · have HRT := hid (hRT.out rfl)
      have hC := f6ints_any A5 A6 R.length R.length c5 c6 R R w7 (by omega) (by omega) (Rd.of_own ho5) (Rd.of_own ho6)
      rw [decide_eq_true rfl] at hC
      have hC := hid hC
      go_wp2_with fail
      refine hC.out.mono ?_
      clear hC
      rintro e w8 ⟨rfl, hb8⟩
      have ho1 := own_below ho1 hb8
      have ho5 := own_below ho5 hb8
      replace hB := bchain hB hb8
      clear hb8 ho6
      have hC := HandsText_any A5 R.length c5 R w8 (by omega) (Rd.of_own ho5)
      rw [HRT.out] at hC
      have hC := hid hC
      have hSS : (S.toList == S.toList) = true := by simp
      go_wp2_with fail
      refine hC.out.mono ?_
      clear hC
      rintro e w9 ⟨rfl, hb9⟩
      have ho1 := own_below ho1 hb9
      replace hB := bchain hB hb9
      clear hb9 ho5
      have hC := ValidHands_any A1 p.length c1 p w9 (by omega) (Rd.of_own ho1)
      obtain ⟨vb, hvb⟩ : ∃ vb, hdOk p = vb := ⟨_, rfl⟩
      rw [hvb] at hC
      have HVB := hid hvb
      have hC := hid hC
      clear hvb
      go_wp2_with fail
      refine hC.out.mono ?_
      clear hC
      rintro e w10 ⟨rfl, hb10⟩
      have ho1 := own_below ho1 hb10
      replace hB := bchain hB hb10
      clear hb10
      have hC := specValidHands_any A1 p.length c1 p w10 (by omega) (Rd.of_own ho1)
      rw [HVB.out] at hC
      have hC := hid hC
      have hvv : (vb == vb) = true := by simp
      go_wp2_with fail
      refine hC.out.mono ?_
      clear hC
      rintro e w11 ⟨rfl, hb11⟩
      replace hB := bchain hB hb11
      go_wp2
      go_ret
      exact ⟨rfl, hB⟩
  | false =>
    have hTz0 := hTe hd
    subst hTz0
    clear hback hTne hTe hd
    go_wp2_with fail
    refine hC.out.mono ?_
    clear hC
    rintro e w2 ⟨rfl, hb2⟩
    have ho1 := own_below ho1 hb2
    replace hB := bchain hB hb2
    clear hb2
    have hC := ReadHands_any ⟨#[]⟩ (by decide) w2
    rw [show rReadHands ⟨#[]⟩ = ([], false) from rfl] at hC
    have hC := hid hC
    go_wp2_with fail
    refine hC.out.mono ?_
    clear hC
    rintro e w3 ⟨v3, rfl, ho3, hb3⟩
    have ho3 : w3.ownsRow w2.heap.size 2 1 v3 0 (ints []) := ho3
    obtain ⟨A3, c3, rfl⟩ := own_form ho3
    have ho1 := own_below ho1 hb3
    replace hB := bchain hB hb3
    clear hb3
    go_wp2_with fail
    refine (hD2.out w3 hB).mono ?_
    rintro e w4 ⟨⟨S, hS, rfl⟩, hb4⟩
    have ho1 := own_below ho1 hb4
    have ho3 := own_below ho3 hb4
    replace hB := bchain hB hb4
    clear hb4
    have hRS := ReadHands_any S (by omega) w4
    have hSz : (rReadHands S).1.length ≤ 12 := ReadHands_len S
    have hRT : (rReadHands S).2 = true → rHandsText (rReadHands S).1 = S := hands_back S
    obtain ⟨⟨R, one⟩, hR⟩ : ∃ x, rReadHands S = x := ⟨_, rfl⟩
    rw [hR] at hRS hSz hRT
    dsimp only at hRS hSz hRT
    have HR := hid hR
    have hRS := hid hRS
    have hRT := hid hRT
    clear hR
    go_wp2_with fail
    refine hRS.out.mono ?_
    clear hRS
    rintro e w5 ⟨v5, rfl, ho5, hb5⟩
    obtain ⟨A5, c5, rfl⟩ := own_form ho5
    have ho1 := own_below ho1 hb5
    have ho3 := own_below ho3 hb5
    replace hB := bchain hB hb5
    clear hb5
    have hRS := specReadHands_any S (by omega) w5
    rw [HR.out] at hRS
    have hRS := hid hRS
    go_wp2_with fail
    refine hRS.out.mono ?_
    clear hRS
    rintro e w6 ⟨v6, rfl, ho6, hb6⟩
    have ho6 : w6.ownsRow w5.heap.size 2 1 v6 R.length (ints R) := ho6
    obtain ⟨A6, c6, rfl⟩ := own_form ho6
    have ho1 := own_below ho1 hb6
    have ho3 := own_below ho3 hb6
    have ho5 := own_below ho5 hb6
    replace hB := bchain hB hb6
    clear hb6
    have hC := specHandsText_any A1 p.length c1 p w6 (by omega) (Rd.of_own ho1)
    rw [HT.out] at hC
    have hC := hid hC
    go_wp2_with fail
    refine hC.out.mono ?_
    clear hC
    rintro e w7 ⟨rfl, hb7⟩
    have ho1 := own_below ho1 hb7
    have ho3 := own_below ho3 hb7
    have ho5 := own_below ho5 hb7
    have ho6 := own_below ho6 hb7
    replace hB := bchain hB hb7
    clear hb7
    have hoo : (one == one) = true := by simp
    cases one
    · skip
      have hC := f6ints_any A5 A6 R.length R.length c5 c6 R R w7 (by omega) (by omega) (Rd.of_own ho5) (Rd.of_own ho6)
      rw [decide_eq_true rfl] at hC
      have hC := hid hC
      go_wp2_with fail
      refine hC.out.mono ?_
      clear hC
      rintro e w8 ⟨rfl, hb8⟩
      have ho1 := own_below ho1 hb8
      have ho5 := own_below ho5 hb8
      replace hB := bchain hB hb8
      clear hb8 ho6
      obtain ⟨w9, rfl⟩ : ∃ w9 : World, w9 = w8 := ⟨_, rfl⟩
      have hC := ValidHands_any A1 p.length c1 p w9 (by omega) (Rd.of_own ho1)
      obtain ⟨vb, hvb⟩ : ∃ vb, hdOk p = vb := ⟨_, rfl⟩
      rw [hvb] at hC
      have HVB := hid hvb
      have hC := hid hC
      clear hvb
      go_wp2_with fail
      refine hC.out.mono ?_
      clear hC
      rintro e w10 ⟨rfl, hb10⟩
      have ho1 := own_below ho1 hb10
      replace hB := bchain hB hb10
      clear hb10
      have hC := specValidHands_any A1 p.length c1 p w10 (by omega) (Rd.of_own ho1)
      rw [HVB.out] at hC
      have hC := hid hC
      have hvv : (vb == vb) = true := by simp
      go_wp2_with fail
      refine hC.out.mono ?_
      clear hC
      rintro e w11 ⟨rfl, hb11⟩
      replace hB := bchain hB hb11
      go_wp2
      go_ret
      exact ⟨rfl, hB⟩
    · have HRT := hid (hRT.out rfl)
      have hC := f6ints_any A5 A6 R.length R.length c5 c6 R R w7 (by omega) (by omega) (Rd.of_own ho5) (Rd.of_own ho6)
      rw [decide_eq_true rfl] at hC
      have hC := hid hC
      go_wp2_with fail
      refine hC.out.mono ?_
      clear hC
      rintro e w8 ⟨rfl, hb8⟩
      have ho1 := own_below ho1 hb8
      have ho5 := own_below ho5 hb8
      replace hB := bchain hB hb8
      clear hb8 ho6
      have hC := HandsText_any A5 R.length c5 R w8 (by omega) (Rd.of_own ho5)
      rw [HRT.out] at hC
      have hC := hid hC
      have hSS : (S.toList == S.toList) = true := by simp
      go_wp2_with fail
      refine hC.out.mono ?_
      clear hC
      rintro e w9 ⟨rfl, hb9⟩
      have ho1 := own_below ho1 hb9
      replace hB := bchain hB hb9
      clear hb9 ho5
      have hC := ValidHands_any A1 p.length c1 p w9 (by omega) (Rd.of_own ho1)
      obtain ⟨vb, hvb⟩ : ∃ vb, hdOk p = vb := ⟨_, rfl⟩
      rw [hvb] at hC
      have HVB := hid hvb
      have hC := hid hC
      clear hvb
      go_wp2_with fail
      refine hC.out.mono ?_
      clear hC
      rintro e w10 ⟨rfl, hb10⟩
      have ho1 := own_below ho1 hb10
      replace hB := bchain hB hb10
      clear hb10
      have hC := specValidHands_any A1 p.length c1 p w10 (by omega) (Rd.of_own ho1)
      rw [HVB.out] at hC
      have hC := hid hC
      have hvv : (vb == vb) = true := by simp
      go_wp2_with fail
      refine hC.out.mono ?_
      clear hC
      rintro e w11 ⟨rfl, hb11⟩
      replace hB := bchain hB hb11
      go_wp2
      go_ret
      exact ⟨rfl, hB⟩
theorem fnHandTexts_walk (w : World) (A : Option Addr) (n c : Nat) (xs : List Int) (hK : Came .u8 w A n c xs) :
    Calls Try.prog 3 #[.slice A n c] w fun e w' => e = .returned (.bool true) ∧ Below w.heap.size w w' := by
  by_cases h : n ≤ 4096
  · exact fnHandTexts_main w A n c xs hK h
  · have hq : decide (4096 < n) = true := by simp; omega
    have h1 := hK.2.1; have h2 := hK.2.2.1
    unfold maxLen at h2
    have hL := f6big_any A n c w (by omega)
    rw [hq] at hL
    have hL := hid hL
    clear hK h hq
    go_enter Try.func3, Try.ntmps3
    go_wp2_with (go_at_call 5; refine (hL.out).mono ?_; rintro e w' ⟨rfl, rfl⟩)
    go_ret
    exact ⟨rfl, (by repeat' (first | exact Below.refl _ _ | (with_reducible assumption) | (with_reducible refine Below.alloc ?_ ?_ _) | (with_reducible refine Below.setCell ?_ ?_ _) | (with_reducible refine Below.drew ?_) | (with_reducible refine below_drewN ?_ _) | (refine Below.trans ?_ (Below.mono (by assumption) ?_)) | (with_reducible exact Nat.le_refl _) | (with_reducible assumption) | (exact Below.size (by assumption)) | omega | go_size | (simp at *; omega)))⟩
end Go.Proofs.Ytopakpgmmfkcnaa
