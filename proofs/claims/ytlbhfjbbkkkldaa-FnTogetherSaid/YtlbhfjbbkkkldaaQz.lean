/- The contracts of DrawTogetherOf and DrawApartOf. -/
import Derived.Test.YtlbhfjbbkkkldaaQr
namespace Go.Proofs.Ytlbhfjbbkkkldaa
open Go.RowKit
set_option linter.unusedVariables false

def TwoRows (B : Nat) (w : World) (e : Ending) : Prop := ∃ A1 c1 A2 c2, ∃ a b : List Int, e = .returned (.tuple #[.slice A1 a.length c1, .slice A2 b.length c2]) ∧ a.length ≤ 13 ∧ b.length ≤ 13 ∧ w.ownsRow B 2 1 (.slice A1 a.length c1) a.length (ints a) ∧ w.ownsRow B 2 1 (.slice A2 b.length c2) b.length (ints b)
set_option maxRecDepth 100000 in
set_option maxHeartbeats 2000000 in
theorem DrawTogetherOf_any (A : Option Addr) (n c : Nat) (xs : List Int) (w : World) (hn : n ≤ 1099511627776) (hx : ∀ x ∈ xs, 0 ≤ x ∧ x ≤ 255) (hr : Rd w w.heap.size 1 A n (xs.map (Value.int .u8))) :
    Calls Try.prog 26 #[.slice A n c] w fun e w' => TwoRows w.heap.size w' e ∧ Below w.heap.size w w' := by
  have h0 := hid (l00From_any A n c xs w hn hx hr)
  clear hx hr
  go_enter Try.func26, Try.ntmps26
  go_wp2_with fail
  refine h0.out.mono ?_
  rintro e w1 ⟨rfl, hs1, hb1⟩
  have z1 := hb1.size
  have l1 := hs1.lt
  clear h0
  go_wp2_with fail
  refine (l02Bent_src _ A n c 0 xs w1 (by omega) hs1).mono ?_
  rintro e w2 ⟨v2, rfl, ⟨p, hpl, ho2⟩, hs2, hg2⟩
  obtain ⟨A2, c2, rfl⟩ := own_form ho2
  have hB2 : Below w.heap.size w w2 := hb1.grown hg2 z1 (fun g h => by simp at h; omega)
  have z2 := hg2.size
  clear hg2 hs1 hb1
  go_wp2_with fail
  refine (one_src _ A n c (0 + 600) xs 6 w2 (by omega) (by omega) hs2).mono ?_
  rintro e w3 ⟨⟨b, rfl⟩, hs3, hg3⟩
  have hB3 : Below w.heap.size w w3 := hB2.grown hg3 (by omega) (fun g h => by simp at h; omega)
  have ho3 := own_ask ho2 hs2 hg3
  have z3 := hg3.size
  have HF : Hid (Src w3 w.heap.size A n c xs (0 + 600 + 2) ∧ Below w.heap.size w w3 ∧ w3.ownsRow w1.heap.size 2 1 (.slice A2 p.length c2) p.length (ints p) ∧ w1.heap.size ≤ w3.heap.size) := ⟨hs3, hB3, ho3, by omega⟩
  clear hg3 hs2 hB2 ho2 hs3 hB3 ho3 z2 z3
  obtain ⟨we, rfl⟩ : ∃ we : World, we = w3 := ⟨_, rfl⟩
  go_upto_if 14 with fail
  go_cut [6] (fun s wx => Hid (∃ N' : Nat, s = .int .i64 (N' : Int) ∧ N' ≤ 14 ∧ Src wx w.heap.size A n c xs (0 + 600 + 2) ∧ Below w.heap.size w wx ∧ wx.ownsRow w1.heap.size 2 1 (.slice A2 p.length c2) p.length (ints p) ∧ w1.heap.size ≤ wx.heap.size))
  case first =>
    cases b
    · go_wp2_with fail
      go_meet
      exact hid ⟨p.length, rfl, by omega, HF.out⟩
    · go_wp2_with fail
      go_meet
      exact hid ⟨p.length + 1, by go_num, by omega, HF.out⟩
  case rest =>
    clear HF
    obtain ⟨N', rfl, hN', hs, hB, ho, hz⟩ := hcut.out
    clear hcut
    have hI := hid (fun w9 => l00In_any (N' : Int) 1 12 w9)
    have HS := hid hs
    have HB := hid hB
    have HO := hid ho
    clear hs hB ho
    cases hin : betweenB (N' : Int) 1 12 with
    | true =>
      rw [hin] at hI
      have hN1 := (betweenB_iff _ _ _).1 hin
      have h1 : 1 ≤ N' := by omega
      have h2 : N' ≤ 13 := by omega
      clear hin hN1
      go_wp2_with (go_at_call 95; refine (hI.out _).mono ?_; rintro e w' ⟨rfl, rfl⟩)
      refine (l04Site_src _ A n c (0 + 600 + 2) xs N' _ (by omega) h1 h2 HS.out).mono ?_
      rintro e w4 ⟨v4, rfl, ⟨L, hL, ho4⟩, hs4, hg4⟩
      obtain ⟨A4, c4, rfl⟩ := own_form ho4
      have hB4 : Below w.heap.size w w4 := HB.out.grown hg4 (by omega) (fun g h => by simp at h; omega)
      have ho5 := own_ask HO.out HS.out hg4
      have hLn := hL.len
      have h3 : L.length ≤ 13 := by omega
      clear hL hLn HS HO HB hg4 hs4
      go_wp2
      go_ret2
      exact ⟨⟨A2, c2, A4, c4, p, L, rfl, by omega, h3, own_more ho5 (by omega), own_more ho4 (by omega)⟩, hB4⟩
    | false =>
      rw [hin] at hI
      clear hin
      go_wp2_with (go_at_call 95; refine (hI.out _).mono ?_; rintro e w' ⟨rfl, rfl⟩)
      refine (l04Site_src _ A n c (0 + 600 + 2) xs 1 _ (by omega) (by omega) (by omega) HS.out).mono ?_
      rintro e w4 ⟨v4, rfl, ⟨L, hL, ho4⟩, hs4, hg4⟩
      obtain ⟨A4, c4, rfl⟩ := own_form ho4
      have hB4 : Below w.heap.size w w4 := HB.out.grown hg4 (by omega) (fun g h => by simp at h; omega)
      have ho5 := own_ask HO.out HS.out hg4
      have hLn := hL.len
      have h3 : L.length ≤ 13 := by omega
      clear hL hLn HS HO HB hg4 hs4
      go_wp2
      go_ret2
      exact ⟨⟨A2, c2, A4, c4, p, L, rfl, by omega, h3, own_more ho5 (by omega), own_more ho4 (by omega)⟩, hB4⟩
set_option maxRecDepth 100000 in
set_option maxHeartbeats 2000000 in
theorem DrawApartOf_any (A : Option Addr) (n c : Nat) (xs : List Int) (w : World) (hn : n ≤ 1099511627776) (hx : ∀ x ∈ xs, 0 ≤ x ∧ x ≤ 255) (hr : Rd w w.heap.size 1 A n (xs.map (Value.int .u8))) :
    Calls Try.prog 29 #[.slice A n c] w fun e w' => PeRow w.heap.size w' e ∧ Below w.heap.size w w' := by
  have hX := Bx.new w 35 #[.slice none 0 0, .slice none 0 0]
  have hB0 : Below w.heap.size w (w.alloc (Obj.cells #[.slice none 0 0, .slice none 0 0] 35)) := (by repeat' (first | exact Below.refl _ _ | (with_reducible assumption) | (with_reducible refine Below.alloc ?_ ?_ _) | (with_reducible refine Below.setCell ?_ ?_ _) | (with_reducible refine Below.drew ?_) | (with_reducible refine below_drewN ?_ _) | (refine Below.trans ?_ (Below.mono (by assumption) ?_)) | (with_reducible exact Nat.le_refl _) | (with_reducible assumption) | (exact Below.size (by assumption)) | omega | go_size | (simp at *; omega)))
  have hzz : (w.alloc (Obj.cells #[.slice none 0 0, .slice none 0 0] 35)).heap.size = w.heap.size + 1 := by simp
  have h0 := l00From_any A n c xs (w.alloc (Obj.cells #[.slice none 0 0, .slice none 0 0] 35)) hn hx ((hr.below hB0 (Nat.le_refl _)).more hB0.size)
  rw [hzz] at h0
  have h0 := hid h0
  have HX := hid hX
  have HB := hid hB0
  clear hx hr hX hB0 hzz
  go_enter Try.func29, Try.ntmps29
  go_wp2_with fail
  refine h0.out.mono ?_
  rintro e w1 ⟨rfl, hs1, hb1⟩
  have z1 := hb1.size
  have l1 := hs1.lt
  have hX1 := hid (HX.out.below hb1 (Nat.lt_succ_self _))
  have hB1 := hid (HB.out.trans (hb1.mono (Nat.le_succ _)))
  have hl0 : w.heap.size < w1.heap.size := hX1.out.lt
  have hS := hid hs1
  clear h0 HX HB hs1 hb1 z1 l1
  go_wp2_with fail
  refine (one_src _ A n c 0 xs 2 w1 (by omega) (by omega) hS.out).mono ?_
  rintro e w2 ⟨⟨b, rfl⟩, hs2, hg2⟩
  have hX2 := hid (hX1.out.grown hg2 (fun e => by injection e with e; omega))
  have hB2 := hid (hB1.out.grown hg2 hB1.out.size (fun g h => by injection h with h; omega))
  have z2 := hg2.size
  have hS2 := hid hs2
  clear hX1 hB1 hS hg2 hs2
  cases b
  · go_wp2_with fail
    refine (l06Bent_src _ A n c (0 + 2) xs w2 (by omega) hS2.out).mono ?_
    rintro e w3 ⟨⟨A2, n2, c2, B2, m2, d2, rfl, p, hm, hm', hn2, hn3⟩, hs3, hg3⟩
    have hX3 := hX2.out.grown hg3 (fun e => by injection e with e; omega)
    have hB3 : Below w.heap.size w w3 := hB2.out.grown hg3 hB2.out.size (fun g h => by injection h with h; omega)
    have e0 := bx_p0 hX3
    have e00 := bx_p1 hX3
    have e1 := hX3.frozen 0
    have e11 := hX3.frozen 1
    have hl2 : w.heap.size < w2.heap.size := by omega
    have hsz : w3.heap.size ≤ ((w3.setCell ⟨w.heap.size, 0, none⟩ (.slice A2 n2 c2)).setCell ⟨w.heap.size, 1, none⟩ (.slice B2 m2 d2)).heap.size := by simp
    have HM := hid (((hm.setCell (p := ⟨w.heap.size, 0, none⟩) hl2 (.slice A2 n2 c2)).setCell (p := ⟨w.heap.size, 1, none⟩) hl2 (.slice B2 m2 d2)).more (Nat.le_of_lt hl2) hsz)
    have HM' := hid (((hm'.setCell (p := ⟨w.heap.size, 0, none⟩) hl2 (.slice A2 n2 c2)).setCell (p := ⟨w.heap.size, 1, none⟩) hl2 (.slice B2 m2 d2)).more (Nat.le_of_lt hl2) hsz)
    have HB3 := hid hB3
    clear hg3 hs3 hX3 hB3 hm hm' hS2 hX2 hB2 hsz
    go_wp2
    refine bodyPost_ret (v := .agg #[.slice A2 n2 c2, .slice B2 m2 d2]) ?_ rfl ?_
    · simp (maxDischargeDepth := 8) [results, Try.results29, go_sem, *]
    exact ⟨⟨A2, n2, c2, B2, m2, d2, rfl, p, HM.out, HM'.out, hn2, hn3⟩, (HB3.out.setCell (p := ⟨w.heap.size, 0, none⟩) (by show w.heap.size ≤ w.heap.size; exact Nat.le_refl _) _).setCell (p := ⟨w.heap.size, 1, none⟩) (by show w.heap.size ≤ w.heap.size; exact Nat.le_refl _) _⟩
  · go_wp2_with fail
    refine (pick_src _ A n c (0 + 2) xs 5 w2 (by omega) (by omega) hS2.out).mono ?_
    rintro e w3 ⟨⟨x, x0, x1, rfl⟩, hs3, hg3⟩
    have hX3 := hid (hX2.out.grown hg3 (fun e => by injection e with e; omega))
    have hB3 := hid (hB2.out.grown hg3 hB2.out.size (fun g h => by injection h with h; omega))
    have z3 := hg3.size
    have hS3 := hid hs3
    obtain ⟨N, hN⟩ : ∃ N : Nat, 1 + x = (N : Int) := ⟨(1 + x).toNat, by omega⟩
    have hN1 : 1 ≤ N := by omega
    have hN2 : N ≤ 5 := by omega
    clear hX2 hB2 hS2 hg3 hs3
    go_wp2_with fail
    clear hN x0 x1
    refine (l04Site_src _ A n c (0 + 2 + 2) xs N _ (by omega) hN1 (by omega) hS3.out).mono ?_
    rintro e w4 ⟨v4, rfl, ⟨L, hL, ho4⟩, hs4, hg4⟩
    obtain ⟨A4, c4, rfl⟩ := own_form ho4
    have hX4 := hid (hX3.out.grown hg4 (fun e => by injection e with e; omega))
    have hB4 := hid (hB3.out.grown hg4 hB3.out.size (fun g h => by injection h with h; omega))
    have z4 := hg4.size
    have hS4 := hid hs4
    have HO4 := hid ho4
    clear hX3 hB3 hS3 hg4 hs4 ho4
    go_wp2_with fail
    refine (l04Site_src _ A n c (0 + 2 + 2 + 50) xs N _ (by omega) hN1 (by omega) hS4.out).mono ?_
    rintro e w5 ⟨v5, rfl, ⟨L', hL', ho5⟩, hs5, hg5⟩
    obtain ⟨A5, c5, rfl⟩ := own_form ho5
    have hX5 := hid (hX4.out.grown hg5 (fun e => by injection e with e; omega))
    have hB5 := hid (hB4.out.grown hg5 hB4.out.size (fun g h => by injection h with h; omega))
    have z5 := hg5.size
    have ho4 := own_ask HO4.out hS4.out hg5
    have hTG : Hid (rTogetherOf L L' = ((selfs L, selfs L'), 0)) := by
      show _ = _
      rw [rTogetherOf, hL.ok hN1 (by omega), hL'.ok hN1 (by omega)]
      simp only [Bool.and_self, if_true]
      rw [if_pos (by rw [hL.len, hL'.len]), if_pos (by rw [hL.len]; omega)]
    have hC := specTogetherOf_any A4 A5 L.length c4 L'.length c5 L L' w5 (by rw [hL.len]; omega) (by rw [hL'.len]; omega) (Rd.of_own ho4) (Rd.of_own ho5)
    rw [hTG.out] at hC
    have HC := hid hC
    have hLn := hL.len
    have hLm := hL'.len
    have HLN : Hid (L.length ≤ 5 ∧ L'.length ≤ 5) := ⟨by omega, by omega⟩
    clear hX4 hB4 hS4 hg5 hs5 ho4 ho5 HO4 hTG hC hL hL' hLn hLm
    go_wp2_with fail
    refine HC.out.mono ?_
    rintro e w6 ⟨⟨A6, c6, B6, d6, _, _, rfl, ho6, hq6, _⟩, hb6⟩
    simp only [selfs_len] at ho6 hq6 ⊢
    have hX6 := hX5.out.below hb6 hX5.out.lt
    have hB6 := bchain hB5.out hb6
    have e0 := bx_p0 hX6
    have e00 := bx_p1 hX6
    have e1 := hX6.frozen 0
    have e11 := hX6.frozen 1
    have hl6 : w.heap.size < w6.heap.size := hX6.lt
    have hl5 : w.heap.size < w5.heap.size := hX5.out.lt
    obtain ⟨W, hW⟩ : ∃ W, w6.alloc (Obj.cells #[.slice A6 L.length c6, .slice B6 L'.length d6] 35) = W := ⟨_, rfl⟩
    have HWx : Hid (Bx W w.heap.size 35 #[.slice none 0 0, .slice none 0 0] ∧ Bx W w6.heap.size 35 #[.slice A6 L.length c6, .slice B6 L'.length d6] ∧ Below w.heap.size w W ∧ W.ownsRow w5.heap.size 94 2 (.slice A6 L.length c6) L.length (ths (selfs L)) ∧ W.ownsRow w5.heap.size 94 2 (.slice B6 L'.length d6) L'.length (ths (selfs L'))) := by
      rw [← hW]
      exact ⟨hX6.alloc _, Bx.new _ _ _, hB6.alloc hB6.size _, ho6.alloc _, hq6.alloc _⟩
    rw [← hW] at HWx
    clear HC hX5 hB5 hb6 hX6 hB6 ho6 hq6 hW W
    go_upto_region 6 with fail
    obtain ⟨W, hW⟩ : ∃ W, w6.alloc (Obj.cells #[.slice A6 L.length c6, .slice B6 L'.length d6] 35) = W := ⟨_, rfl⟩
    rw [hW] at HWx ⊢
    obtain ⟨k1, k2, k3, k4, k5⟩ := HWx.out
    clear HWx hW e0 e00 e1 e11
    have e0 := bx_p0 k1
    have e00 := bx_p1 k1
    have e1 := k1.frozen 0
    have e11 := k1.frozen 1
    have e2 := bx_p0 k2
    have e22 := bx_p1 k2
    have hsz : W.heap.size ≤ ((W.setCell ⟨w.heap.size, 0, none⟩ (.slice A6 L.length c6)).setCell ⟨w.heap.size, 1, none⟩ (.slice B6 L'.length d6)).heap.size := by simp
    have HM := hid ((((RdP.of_own k4).setCell (p := ⟨w.heap.size, 0, none⟩) hl5 (.slice A6 L.length c6)).setCell (p := ⟨w.heap.size, 1, none⟩) hl5 (.slice B6 L'.length d6)).more (Nat.le_of_lt hl5) hsz)
    have HM' := hid ((((RdP.of_own k5).setCell (p := ⟨w.heap.size, 0, none⟩) hl5 (.slice A6 L.length c6)).setCell (p := ⟨w.heap.size, 1, none⟩) hl5 (.slice B6 L'.length d6)).more (Nat.le_of_lt hl5) hsz)
    have HB := hid k3
    clear k1 k2 k3 k4 k5 hsz
    go_wp2
    refine bodyPost_ret (v := .agg #[.slice A6 L.length c6, .slice B6 L'.length d6]) ?_ rfl ?_
    · simp (maxDischargeDepth := 8) [results, Try.results29, go_sem, *]
    exact ⟨⟨A6, L.length, c6, B6, L'.length, d6, rfl, (selfs L, selfs L'), HM.out, HM'.out, by have := HLN.out; omega, by have := HLN.out; omega⟩, (HB.out.setCell (p := ⟨w.heap.size, 0, none⟩) (by show w.heap.size ≤ w.heap.size; exact Nat.le_refl _) _).setCell (p := ⟨w.heap.size, 1, none⟩) (by show w.heap.size ≤ w.heap.size; exact Nat.le_refl _) _⟩
end Go.Proofs.Ytlbhfjbbkkkldaa
