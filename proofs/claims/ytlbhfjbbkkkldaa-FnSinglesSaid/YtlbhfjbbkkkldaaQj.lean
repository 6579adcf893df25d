/- Contract of l04Site, which draws a pattern with one throw at each beat. -/
import Derived.Test.YtlbhfjbbkkkldaaDw
import Derived.Test.YtlbhfjbbkkkldaaTn
namespace Go.Proofs.Ytlbhfjbbkkkldaa
open Go.RowKit
set_option linter.unusedVariables false

/-- A list of throws whose landings are all different. -/
def St (N : Nat) (L : List Int) : Prop := L.length = N ∧ (∀ x ∈ L, 0 ≤ x ∧ x ≤ 15) ∧ ∀ a b : Nat, a < b → b < N → Ld L a ≠ Ld L b
theorem St.len {N : Nat} {L : List Int} (h : St N L) : L.length = N := h.1
theorem St.bd {N : Nat} {L : List Int} (h : St N L) (i : Nat) (hi : i < N) : 0 ≤ L.getD i 0 ∧ L.getD i 0 ≤ 15 := by
  refine h.2.1 _ ?_
  rw [List.getD_eq_getElem?_getD, List.getElem?_eq_getElem (by rw [h.1]; exact hi)]
  exact List.getElem_mem _
theorem St.ok {N : Nat} {L : List Int} (h : St N L) (h1 : 1 ≤ N) (h12 : N ≤ 12) : okP L = true := by
  refine ok_mk ?_ (fun a b hab hb => h.2.2 a b hab (by rw [← h.1]; exact hb))
  rw [thOk, Bool.and_eq_true, List.all_eq_true, betweenB_iff]
  refine ⟨fun x hx => ?_, by rw [h.1]; omega⟩
  have := h.2.1 x hx
  rw [betweenB_iff]; exact this
theorem St.const {N : Nat} {L : List Int} {k : Int} (hl : L.length = N) (k0 : 0 ≤ k) (k1 : k ≤ 15) (h : ∀ j : Nat, j < N → L.getD j 0 = k) : St N L := by
  refine ⟨hl, fun x hx => ?_, fun a b hab hb => ?_⟩
  · obtain ⟨j, hj, rfl⟩ := List.mem_iff_getElem.1 hx
    have := h j (by omega)
    rw [List.getD_eq_getElem?_getD, List.getElem?_eq_getElem hj] at this
    simp at this; omega
  · unfold Ld
    rw [h a (by omega), h b hb, hl]
    intro e
    have h1 := Int.emod_emod_of_dvd
    have : ((a : Int) + k - ((b : Int) + k)) % (N : Int) = 0 := Int.emod_eq_zero_of_dvd (Int.dvd_of_emod_eq_zero (by rw [Int.sub_emod, e, Int.sub_self, Int.zero_emod]))
    have h2 : (N : Int) ∣ ((b : Int) - (a : Int)) := by
      have := Int.dvd_of_emod_eq_zero this
      have h3 := Int.dvd_neg.2 this
      rw [show -((a : Int) + k - ((b : Int) + k)) = (b : Int) - (a : Int) by omega] at h3
      exact h3
    have := Int.le_of_dvd (by omega) h2
    omega
theorem St.swap {N : Nat} {L : List Int} (h : St N L) {a b : Nat} (hab : a < b) (hb : b < N) (hx : L.getD b 0 + (b : Int) - (a : Int) ≤ 15) (hy : 0 ≤ L.getD a 0 + (a : Int) - (b : Int)) : St N (swapP L a b) := by
  have ha : a < L.length := by rw [h.1]; omega
  have hb' : b < L.length := by rw [h.1]; exact hb
  refine ⟨by rw [swapP_len]; exact h.1, fun x hx' => ?_, fun i j hij hj => ?_⟩
  · obtain ⟨j, hj, rfl⟩ := List.mem_iff_getElem.1 hx'
    have e : (swapP L a b)[j] = (swapP L a b).getD j 0 := by rw [List.getD_eq_getElem?_getD, List.getElem?_eq_getElem hj]; rfl
    rw [swapP_len] at hj
    rw [e, swapP_getD ha hb']
    have h1 := h.bd a (by omega)
    have h2 := h.bd b hb
    split
    · omega
    · split
      · omega
      · exact h.bd j (by rw [← h.1]; exact hj)
  · rw [swapP_Ld ha hb', swapP_Ld ha hb']
    have key : ∀ x y : Nat, x ≠ y → x < N → y < N → Ld L x ≠ Ld L y := fun x y hxy hx hy => by
      rcases Nat.lt_or_gt_of_ne hxy with k | k
      · exact h.2.2 x y k hy
      · exact fun e => h.2.2 y x k hx e.symm
    refine key _ _ ?_ ?_ ?_
    · unfold tr
      split <;> split <;> (try split) <;> (try split) <;> omega
    · unfold tr; split <;> (try split) <;> omega
    · unfold tr; split <;> (try split) <;> omega
/-- A list of throws of the call's own. -/
def StRow (B N : Nat) (w : World) (v : Value) : Prop := ∃ L, St N L ∧ w.ownsRow B 2 1 v L.length (ints L)
set_option maxRecDepth 100000 in
set_option maxHeartbeats 2000000 in
theorem l04Site_src (g : Nat) (A : Option Addr) (n c K : Nat) (xs : List Int) (N : Nat) (w : World) (hK : K ≤ 100000) (hN1 : 1 ≤ N) (hN2 : N ≤ 13) (h : Src w g A n c xs K) :
    Calls Try.prog 96 #[.pointer (some ⟨g, 0, none⟩), .int .i64 (N : Int)] w fun e w' => ∃ v, e = .returned v ∧ StRow w.heap.size N w' v ∧ Src w' g A n c xs (K + 50) ∧ w.grownBy w' (some g) := by
  have hgl := h.lt
  go_enter Try.func96, Try.ntmps96
  go_wp2_with (at_make; refine make_own w.heap.size Try.underlying43 inf_int rfl rfl _ _ rfl .i64 .i64 N rfl rfl (by omega) (by omega) (Nat.le_refl _) ?_; intro w1 ho1 hb1 hz1)
  have hs1 := h.below hb1 hgl
  have hg1 : w.grownBy w1 (some g) := grown_bl (World.grownBy.refl w (some g)) hb1 (Nat.le_refl _)
  have ho1 : w1.ownsRow w.heap.size 2 1 (.slice (some ⟨w.heap.size, 0, none⟩) N N) N (ints (List.replicate N 0)) := by
    rw [ints, List.map_replicate]; exact ho1
  clear h hb1
  refine (pick_src g A n c K xs 5 w1 (by omega) (by omega) hs1).mono ?_
  rintro e w2 ⟨⟨kk, k0, k1, rfl⟩, hs2, hg2⟩
  have ho2 := own_ask ho1 hs1 hg2
  have hgg2 := grown_trans hg1 hg2
  have hz2 := hgg2.size
  have k5 : kk ≤ 15 := by omega
  clear hs1 hg1 hg2 ho1 k1 hz1
  go_wp2
  go_loopw [7] (fun i wr => Hid (∃ (k : Nat) (L : List Int), i = .int .i64 k ∧ k ≤ N ∧ L.length = N ∧ (∀ j : Nat, j < k → L.getD j 0 = kk) ∧ Src wr g A n c xs (K + 2) ∧ wr.ownsRow w.heap.size 2 1 (.slice (some ⟨w.heap.size, 0, none⟩) N N) N (ints L) ∧ w.grownBy wr (some g))) (fun i _ => N - (intOf i).toNat)
  case atStart => exact hid ⟨0, _, rfl, Nat.zero_le _, by simp, fun j hj => by omega, hs2, ho2, hgg2⟩
  case round =>
    clear hs2 ho2 hgg2 hz2
    obtain ⟨k, L, rfl, hk, hL, hall, hs, ho, hg⟩ := hrel.out
    clear hrel
    have hz := hg.size
    have hgw := (ho.lt w.heap.size rfl).2
    have HL := hid hL
    by_cases hlt : k < N
    · have hfr := ho.frozenAt k
      obtain ⟨u, hcu⟩ : ∃ u, wr.cell? ⟨w.heap.size, k, none⟩ = some u := by
        rw [ho.cellAt k (by omega)]
        exact ⟨_, ints_at (by omega)⟩
      obtain ⟨ho5, _⟩ := ho.stored k (.int .i64 kk)
      rw [ints_setD] at ho5
      have hb5 : Below w.heap.size wr (wr.setCell ⟨w.heap.size, k, none⟩ (.int .i64 kk)) := (by repeat' (first | exact Below.refl _ _ | (with_reducible assumption) | (with_reducible refine Below.alloc ?_ ?_ _) | (with_reducible refine Below.setCell ?_ ?_ _) | (with_reducible refine Below.drew ?_) | (with_reducible refine below_drewN ?_ _) | (refine Below.trans ?_ (Below.mono (by assumption) ?_)) | (with_reducible exact Nat.le_refl _) | (with_reducible assumption) | (exact Below.size (by assumption)) | omega | go_size | (simp at *; omega)))
      have HA : Hid (∀ j : Nat, j < k + 1 → (L.set k kk).getD j 0 = kk) := by
        intro j hj
        rw [List.getD_eq_getElem?_getD, List.getElem?_set]
        by_cases hjk : k = j
        · rw [if_pos hjk, if_pos (by omega)]; rfl
        · rw [if_neg hjk, ← List.getD_eq_getElem?_getD]; exact hall j (by omega)
      have HO := hid ho5
      clear ho5 ho hall hL
      go_wp2
      go_roundw
      case rel => exact hid ⟨k + 1, L.set k kk, by go_num, by omega, by rw [List.length_set]; exact HL.out, HA.out, hs.below hb5 hgl, HO.out, grown_bl hg hb5 (Nat.le_refl _)⟩
      case measure => simp [intOf]; omega
    · have hkN : k = N := by omega
      have HST : Hid (St N L) := St.const HL.out k0 k5 (by rw [← hkN]; exact hall)
      clear hkN hall hL HL
      go_wp2_with fail
      refine (pick_src g A n c (K + 2) xs 8 _ (by omega) (by omega) hs).mono ?_
      rintro e w3 ⟨⟨j, j0, j1, rfl⟩, hs3, hg3⟩
      have ho3 := own_ask ho hs hg3
      have hgg3 := grown_trans hg hg3
      have hz3 := hgg3.size
      obtain ⟨J, rfl⟩ := Int.eq_ofNat_of_zero_le j0
      have hJ : J ≤ 7 := by omega
      clear hs hg hg3 ho j1 hgw
      go_wp2
      go_loopw [8] (fun i wr => Hid (∃ (j : Nat) (L : List Int) (K2 : Nat), i = .int .i64 j ∧ j ≤ 7 ∧ Hid (St N L) ∧ K2 + 4 * j ≤ K + 40 ∧ Src wr g A n c xs K2 ∧ wr.ownsRow w.heap.size 2 1 (.slice (some ⟨w.heap.size, 0, none⟩) N N) N (ints L) ∧ w.grownBy wr (some g))) (fun i _ => (intOf i).toNat)
      case atStart => exact hid ⟨J, L, K + 2 + 2, rfl, hJ, HST, by omega, hs3, ho3, hgg3⟩
      case round =>
        clear hs3 ho3 hgg3 hz3 HST L
        obtain ⟨j, L, K2, rfl, hj, HST, hK2, hs, ho, hg⟩ := hrel.out
        clear hrel
        have hz := hg.size
        have HL := hid HST.out.len
        by_cases hj0 : 0 < j
        · by_cases hN : 1 < N
          · have hq1 : (0 : Int) < (j : Int) := by omega
            have hq2 : (1 : Int) < (N : Int) := by omega
            go_wp2_with fail
            refine (pick_src g A n c K2 xs ((N : Int) - 1) _ (by omega) (by omega) hs).mono ?_
            rintro e w4 ⟨⟨a, a0, a1, rfl⟩, hs4, hg4⟩
            have ho4 := own_ask ho hs hg4
            have hgg4 := grown_trans hg hg4
            obtain ⟨a, rfl⟩ := Int.eq_ofNat_of_zero_le a0
            have ha : a + 1 < N := by omega
            clear hs hg hg4 ho a1
            go_wp2_with fail
            refine (pick_src g A n c (K2 + 2) xs ((N : Int) - 1 - (a : Int)) _ (by omega) (by omega) hs4).mono ?_
            rintro e w5 ⟨⟨d, d0, d1, rfl⟩, hs5, hg5⟩
            have ho5 := own_ask ho4 hs4 hg5
            have hgg5 := grown_trans hgg4 hg5
            have hz5 := hgg5.size
            obtain ⟨d, rfl⟩ := Int.eq_ofNat_of_zero_le d0
            obtain ⟨b, hb⟩ : ∃ b, b = a + 1 + d := ⟨_, rfl⟩
            have hbN : b < N := by omega
            have hab : a < b := by omega
            have hbe : (a : Int) + 1 + (d : Int) = (b : Int) := by omega
            clear hs4 hgg4 hg5 ho4 d1
            have hgw := (ho5.lt w.heap.size rfl).2
            obtain ⟨xa, hxa⟩ : ∃ x, L.getD a 0 = x := ⟨_, rfl⟩
            obtain ⟨xb, hxb⟩ : ∃ x, L.getD b 0 = x := ⟨_, rfl⟩
            have hba := HST.out.bd a (by omega)
            have hbb := HST.out.bd b hbN
            rw [hxa] at hba
            rw [hxb] at hbb
            have ca : w5.cell? ⟨w.heap.size, a, none⟩ = some (.int .i64 xa) := by
              rw [ho5.cellAt a (by omega), ← hxa]
              exact ints_at (by have := HL.out; omega)
            have cb : w5.cell? ⟨w.heap.size, b, none⟩ = some (.int .i64 xb) := by
              rw [ho5.cellAt b (by omega), ← hxb]
              exact ints_at (by have := HL.out; omega)
            have fa := ho5.frozenAt a
            obtain ⟨ho6, _⟩ := ho5.stored a (.int .i64 (xb + (b : Int) - (a : Int)))
            rw [ints_setD] at ho6
            have fb := ho6.frozenAt b
            obtain ⟨ho7, _⟩ := ho6.stored b (.int .i64 (xa - ((b : Int) - (a : Int))))
            rw [ints_setD] at ho7
            have hsw : (L.set a (xb + (b : Int) - (a : Int))).set b (xa - ((b : Int) - (a : Int))) = swapP L a b := by
              unfold swapP
              rw [hxa, hxb, show xa - ((b : Int) - (a : Int)) = xa + (a : Int) - (b : Int) by omega]
            rw [hsw] at ho7
            have HO7 := hid ho7
            have hb7 : Below w.heap.size w5 ((w5.setCell ⟨w.heap.size, a, none⟩ (.int .i64 (xb + (b : Int) - (a : Int)))).setCell ⟨w.heap.size, b, none⟩ (.int .i64 (xa - ((b : Int) - (a : Int))))) := (by repeat' (first | exact Below.refl _ _ | (with_reducible assumption) | (with_reducible refine Below.alloc ?_ ?_ _) | (with_reducible refine Below.setCell ?_ ?_ _) | (with_reducible refine Below.drew ?_) | (with_reducible refine below_drewN ?_ _) | (refine Below.trans ?_ (Below.mono (by assumption) ?_)) | (with_reducible exact Nat.le_refl _) | (with_reducible assumption) | (exact Below.size (by assumption)) | omega | go_size | (simp at *; omega)))
            have cab : (w5.setCell ⟨w.heap.size, a, none⟩ (.int .i64 (xb + (b : Int) - (a : Int)))).cell? ⟨w.heap.size, b, none⟩ = some (.int .i64 xb) := by
              rw [ho6.cellAt b (by omega), ints_at (by rw [List.length_set]; have := HL.out; omega), List.getD_eq_getElem?_getD, List.getElem?_set, if_neg (by omega), ← List.getD_eq_getElem?_getD, hxb]
            have hne : a ≠ b := by omega
            have HXA := hid hxa
            have HXB := hid hxb
            clear hsw ho6 ho7 hxa hxb hb
            by_cases hy : 0 ≤ xa - ((b : Int) - (a : Int))
            · by_cases hx : xb + (b : Int) - (a : Int) ≤ 15
              · have HS2 : Hid (St N (swapP L a b)) := HST.out.swap hab hbN (by rw [HXB.out]; exact hx) (by rw [HXA.out]; omega)
                go_wp2
                go_roundw
                case rel => exact hid ⟨j - 1, swapP L a b, K2 + 2 + 2, by go_num, by omega, HS2, by omega, hs5.below hb7 hgl, HO7.out, grown_bl hgg5 hb7 (Nat.le_refl _)⟩
                case measure => simp [intOf]; omega
              · go_wp2
                go_roundw
                case rel => exact hid ⟨j - 1, L, K2 + 2 + 2, by go_num, by omega, HST, by omega, hs5, ho5, hgg5⟩
                case measure => simp [intOf]; omega
            · go_wp2
              go_roundw
              case rel => exact hid ⟨j - 1, L, K2 + 2 + 2, by go_num, by omega, HST, by omega, hs5, ho5, hgg5⟩
              case measure => simp [intOf]; omega
          · have hq2 : ¬ (1 : Int) < (N : Int) := by omega
            go_wp2
            go_ret
            exact ⟨_, rfl, ⟨L, HST.out, by rw [HL.out]; exact ho⟩, hs.more (by omega), hg⟩
        · have hq2 : ¬ (0 : Int) < (j : Int) := by omega
          go_wp2
          go_ret
          exact ⟨_, rfl, ⟨L, HST.out, by rw [HL.out]; exact ho⟩, hs.more (by omega), hg⟩
end Go.Proofs.Ytlbhfjbbkkkldaa
