/- Contracts of hasForm, both. -/
import Derived.Test.YtkglkpohbckpcaaGreatNg
import Derived.Test.YtkglkpohbckpcaaGreatNd
import Derived.Test.YtkglkpohbckpcaaGreatZr
import Derived.Test.YtkglkpohbckpcaaGreatQh
namespace Go.Proofs.YtkglkpohbckpcaaGreat
open Go.RowKit
set_option linter.unusedVariables false

theorem halfR_some {p : List Beat} : halfR (some p) = decide (p.length ≤ 3) := rfl
theorem formR_1 {l : List UInt8} (h : kinR l = 1) : formR l = thOk (rdDig l) := by rw [formR, if_pos h]
theorem formR_2 {l : List UInt8} (h : kinR l = 2) : formR l = (rdM l).isSome := by rw [formR, if_neg (by omega), if_pos h]
theorem formR_3s {l : List UInt8} (h : kinR l = 3) (hs : l.getLast? = some 42) : formR l = halfR (rdB l.dropLast) := by rw [formR, if_neg (by omega), if_neg (by omega), if_pos h, if_pos hs]
theorem formR_3 {l : List UInt8} (h : kinR l = 3) (hs : l.getLast? ≠ some 42) : formR l = (rdB l).isSome := by rw [formR, if_neg (by omega), if_neg (by omega), if_pos h, if_neg hs]
theorem formR_4 {l : List UInt8} (h : kinR l = 4) : formR l = (rdPa l).isSome := by rw [formR, if_neg (by omega), if_neg (by omega), if_neg (by omega)]
theorem thOk_big {s : ByteArray} (h : 12 < s.size) : thOk (rdDig (tl s)) = false := by
  cases hb : thOk (rdDig (tl s)) with
  | false => rfl
  | true => have h1 := (thOk_iff hb).2.2; have h2 := rdDig_len s; simp only [tl] at h1; omega
set_option maxRecDepth 100000 in
set_option maxHeartbeats 2000000 in
theorem hasForm_any (s : ByteArray) (w : World) (h0 : 0 < s.size) (hs : s.size ≤ 200) :
    Calls Tryz.prog 55 #[.string s] w fun e w' => e = .returned (.bool (formR (tl s))) ∧ Below w.heap.size w w' := by
  have hK := KindOfText_any s w (by omega)
  rcases kinR_cases (tl s) with hk | hk | hk | hk
  · have HZ := hid (formR_1 hk)
    have hK : Calls Tryz.prog 26 #[.string s] w fun e w' => e = .returned (.int .i64 1) ∧ w = w' := by rw [hk] at hK; exact hK
    have hK := hid hK
    by_cases hbig : s.size ≤ 12
    · have hT := hid (readThrows_any s hbig w)
      clear hk
      go_enter Tryz.func55, Tryz.ntmps55
      go_wp2_with fail
      refine hK.out.mono ?_
      rintro e w1 ⟨rfl, rfl⟩
      go_wp2_with fail
      refine hT.out.mono ?_
      rintro e w1 ⟨v, rfl, ho, hb⟩
      clear ho hT hK
      go_wp2
      go_ret
      exact ⟨ret_bool HZ.out.symm, hb⟩
    · have hB := hid (thOk_big (s := s) (by omega))
      have hT : Calls Tryz.prog 56 #[.string s] w fun e w' => e = .returned (.tuple #[.slice none 0 0, .bool false]) ∧ w = w' := by
        clear hK HZ hk
        go_enter Tryz.func56, Tryz.ntmps56
        go_wp2
        go_ret2
        exact ⟨rfl, rfl⟩
      have hT := hid hT
      clear hk
      go_enter Tryz.func55, Tryz.ntmps55
      go_wp2_with fail
      refine hK.out.mono ?_
      rintro e w1 ⟨rfl, rfl⟩
      go_wp2_with fail
      refine hT.out.mono ?_
      rintro e w1 ⟨rfl, rfl⟩
      go_wp2
      go_ret
      exact ⟨by rw [HZ.out, hB.out]; try rfl, (by repeat' (first | exact Below.refl _ _ | (with_reducible assumption) | (with_reducible refine Below.alloc ?_ ?_ _) | (with_reducible refine Below.setCell ?_ ?_ _) | (with_reducible refine Below.drew ?_) | (with_reducible refine below_drewN ?_ _) | (refine Below.trans ?_ (Below.mono (by assumption) ?_)) | (with_reducible exact Nat.le_refl _) | (with_reducible assumption) | (exact Below.size (by assumption)) | omega | go_size | (simp at *; omega)))⟩
  · have HZ := hid (formR_2 hk)
    have hK : Calls Tryz.prog 26 #[.string s] w fun e w' => e = .returned (.int .i64 2) ∧ w = w' := by rw [hk] at hK; exact hK
    have hK := hid hK
    have hT := hid (readStacks_any s w (by omega))
    clear hk
    go_enter Tryz.func55, Tryz.ntmps55
    go_wp2_with fail
    refine hK.out.mono ?_
    rintro e w1 ⟨rfl, rfl⟩
    go_wp2_with fail
    refine hT.out.mono ?_
    rintro e w1 ⟨⟨q, A, c, _, _, rfl, _, _⟩, hb⟩
    clear hT hK
    go_wp2
    go_ret
    exact ⟨ret_bool HZ.out.symm, hb⟩
  · have hK : Calls Tryz.prog 26 #[.string s] w fun e w' => e = .returned (.int .i64 3) ∧ w = w' := by rw [hk] at hK; exact hK
    have hK := hid hK
    obtain ⟨n, hn⟩ : ∃ n, s.size = n + 1 := ⟨s.size - 1, by omega⟩
    have hni : n < s.size := by omega
    have hnI : (n : Int) < (s.size : Int) := by omega
    have hn2 : (n : Int) ≤ (s.size : Int) := by omega
    have hn0 : (0 : Int) ≤ (n : Int) := by omega
    have hsz : IntKind.i64.wrap ((s.size : Int) - 1) = (n : Int) := by rw [show (s.size : Int) - 1 = (n : Int) by omega]; exact IntWalk.i64_in (n : Int) (by omega)
    by_cases hst : (tl s).getLast? = some 42
    · have h42 := hst
      rw [tl_last hn] at h42
      injection h42 with h42
      obtain ⟨sub, hsub⟩ : ∃ sub, s.extract 0 n = sub := ⟨_, rfl⟩
      have hsl : tl sub = (tl s).dropLast := by rw [← hsub]; exact tl_init hn
      have hC := readBeats_any sub w (by rw [← hsub, ByteArray.size_extract]; omega)
      have HZ := formR_3s hk hst
      rw [hsl] at hC
      generalize rdB (tl s).dropLast = r at *
      have hq : (((s[n]'hni).toNat : Int) == 42) = true := by rw [h42]; rfl
      have hC := hid hC
      have HZ := hid HZ
      clear hst hsl h42 hk
      go_enter Tryz.func55, Tryz.ntmps55
      go_wp2_with fail
      refine hK.out.mono ?_
      rintro e w1 ⟨rfl, rfl⟩
      go_wp2_with fail
      refine hC.out.mono ?_
      rintro e w1 ⟨⟨q, A, c, hA, hq7, rfl, ho, hqr⟩, hb1⟩
      clear ho
      cases r with
      | none =>
        clear hC hqr hK
        go_wp2
        go_ret
        exact ⟨by rw [HZ.out]; rfl, hb1⟩
      | some q1 =>
        have e1 := hqr q1 rfl
        subst e1
        clear hC hqr hK
        by_cases h3 : q1.length ≤ 3
        · have h3I : (q1.length : Int) ≤ 3 := by omega
          go_wp2
          go_ret
          exact ⟨by rw [HZ.out, halfR_some, decide_eq_true h3]; first | done | rfl | (show Ending.returned (.bool (decide ((q1.length : Int) ≤ 3))) = _; rw [decide_eq_true h3I]), hb1⟩
        · have h3I : ¬ (q1.length : Int) ≤ 3 := by omega
          go_wp2
          go_ret
          exact ⟨by rw [HZ.out, halfR_some, decide_eq_false h3]; first | done | rfl | (show Ending.returned (.bool (decide ((q1.length : Int) ≤ 3))) = _; rw [decide_eq_false (show ¬ (q1.length : Int) ≤ 3 by omega)]), hb1⟩
    · have h42 : s[n]'hni ≠ 42 := fun e => hst (by rw [tl_last hn, e])
      have hq : (((s[n]'hni).toNat : Int) == 42) = false := by rw [show (42 : Int) = ((42 : UInt8).toNat : Int) from rfl, u8_eq]; exact decide_eq_false h42
      have hC := hid (readBeats_any s w (by omega))
      have HZ := hid (formR_3 hk hst)
      clear hst h42 hk
      go_enter Tryz.func55, Tryz.ntmps55
      go_wp2_with fail
      refine hK.out.mono ?_
      rintro e w1 ⟨rfl, rfl⟩
      go_wp2_with fail
      refine hC.out.mono ?_
      rintro e w1 ⟨⟨q, A, c, hA, hq7, rfl, ho, hqr⟩, hb1⟩
      clear ho hC hK hqr
      go_wp2
      go_ret
      exact ⟨ret_bool HZ.out.symm, hb1⟩
  · have HZ := hid (formR_4 hk)
    have hK : Calls Tryz.prog 26 #[.string s] w fun e w' => e = .returned (.int .i64 4) ∧ w = w' := by rw [hk] at hK; exact hK
    have hK := hid hK
    have hT := hid (readForm_any s w (by omega))
    clear hk
    go_enter Tryz.func55, Tryz.ntmps55
    go_wp2_with fail
    refine hK.out.mono ?_
    rintro e w1 ⟨rfl, rfl⟩
    go_wp2_with fail
    refine hT.out.mono ?_
    rintro e w1 ⟨⟨p, _, _, ⟨A, c, A', c', _, _, rfl, _, _⟩, _⟩, hb⟩
    clear hT hK
    go_wp2
    go_ret
    exact ⟨ret_bool HZ.out.symm, (by repeat' (first | exact Below.refl _ _ | (with_reducible assumption) | (with_reducible refine Below.alloc ?_ ?_ _) | (with_reducible refine Below.setCell ?_ ?_ _) | (with_reducible refine Below.drew ?_) | (with_reducible refine below_drewN ?_ _) | (refine Below.trans ?_ (Below.mono (by assumption) ?_)) | (with_reducible exact Nat.le_refl _) | (with_reducible assumption) | (exact Below.size (by assumption)) | omega | go_size | (simp at *; omega)))⟩
set_option maxRecDepth 100000 in
set_option maxHeartbeats 2000000 in
theorem l07Form_any (s : ByteArray) (w : World) (h0 : 0 < s.size) (hs : s.size ≤ 200) :
    Calls Tryz.prog 59 #[.int .i64 (kinR (tl s) : Nat), .string s] w fun e w' => e = .returned (.bool (formR (tl s))) ∧ Below w.heap.size w w' := by
  rcases kinR_cases (tl s) with hk | hk | hk | hk
  · have HZ : Hid (formR (tl s) = thOk (rdDig s.data.toList)) := formR_1 hk
    have hT := l02Read_any s (by omega) w
    have hdl : (rdDig s.data.toList).length ≤ 200 := by rw [rdDig_len]; exact hs
    generalize rdDig s.data.toList = R at *
    have hT := hid hT
    have hL := hid (fun A n c p w => l02List_any A n c p w)
    rw [hk]
    clear hk
    go_enter Tryz.func59, Tryz.ntmps59
    go_wp2_with fail
    refine hT.out.mono ?_
    rintro e w1 ⟨v, rfl, ho, hb⟩
    obtain ⟨A1, c1, rfl⟩ := own_form ho
    have hR := hid (hL.out A1 R.length c1 R w1 (by omega) (Rd.of_own ho))
    clear hT hL ho
    go_wp2_with fail
    refine hR.out.mono ?_
    rintro e w2 ⟨rfl, rfl⟩
    go_wp2
    go_ret
    exact ⟨ret_bool HZ.out.symm, hb⟩
  · have HZ := hid (formR_2 hk)
    have hT := hid (l04Read_any s w (by omega))
    rw [hk]
    clear hk
    go_enter Tryz.func59, Tryz.ntmps59
    go_wp2_with fail
    refine hT.out.mono ?_
    rintro e w1 ⟨⟨q, A, c, ok, hq1, hq2, rfl, hG, hy, hn⟩, hb⟩
    clear hT
    cases ok with
    | false =>
      have HN := hid (hn rfl)
      clear hG hy hn
      go_wp2
      go_ret
      exact ⟨by rw [HZ.out, HN.out]; rfl, (by repeat' (first | exact Below.refl _ _ | (with_reducible assumption) | (with_reducible refine Below.alloc ?_ ?_ _) | (with_reducible refine Below.setCell ?_ ?_ _) | (with_reducible refine Below.drew ?_) | (with_reducible refine below_drewN ?_ _) | (refine Below.trans ?_ (Below.mono (by assumption) ?_)) | (with_reducible exact Nat.le_refl _) | (with_reducible assumption) | (exact Below.size (by assumption)) | omega | go_size | (simp at *; omega)))⟩
    | true =>
      have HY : Hid (formR (tl s) = msSh q) := by show _ = _; rw [HZ.out, hy rfl, shp_isSome]
      have hbx : Below w1.heap.size w1 (w1.alloc (Obj.cells #[.slice A q.length c] 25)) := (by repeat' (first | exact Below.refl _ _ | (with_reducible assumption) | (with_reducible refine Below.alloc ?_ ?_ _) | (with_reducible refine Below.setCell ?_ ?_ _) | (with_reducible refine Below.drew ?_) | (with_reducible refine below_drewN ?_ _) | (refine Below.trans ?_ (Below.mono (by assumption) ?_)) | (with_reducible exact Nat.le_refl _) | (with_reducible assumption) | (exact Below.size (by assumption)) | omega | go_size | (simp at *; omega)))
      have hX := Bx.new w1 25 #[.slice A q.length c]
      have hC := hid (l04Shape_any w1.heap.size A q.length c q _ (by omega) (fun r hr => by have := hq2 r hr; omega) hX ((hG.read.below hbx (Nat.le_refl _)).more hbx.size))
      clear hG hy hn hX
      go_wp2_with fail
      refine hC.out.mono ?_
      rintro e w2 ⟨rfl, hb2⟩
      clear hC
      have hB3 : Below w.heap.size w (w1.alloc (Obj.cells #[.slice A q.length c] 25)) := hb.trans (hbx.mono hb.size)
      have hB4 : Below w.heap.size w w2 := hB3.trans (hb2.mono hB3.size)
      go_wp2
      go_ret
      exact ⟨ret_bool HY.out.symm, hB4⟩
  · rw [hk]
    obtain ⟨n, hn⟩ : ∃ n, s.size = n + 1 := ⟨s.size - 1, by omega⟩
    have hni : n < s.size := by omega
    have hnI : (n : Int) < (s.size : Int) := by omega
    have hn2 : (n : Int) ≤ (s.size : Int) := by omega
    have hn0 : (0 : Int) ≤ (n : Int) := by omega
    have hsz : IntKind.i64.wrap ((s.size : Int) - 1) = (n : Int) := by rw [show (s.size : Int) - 1 = (n : Int) by omega]; exact IntWalk.i64_in (n : Int) (by omega)
    by_cases hst : (tl s).getLast? = some 42
    · have h42 := hst
      rw [tl_last hn] at h42
      injection h42 with h42
      obtain ⟨sub, hsub⟩ : ∃ sub, s.extract 0 n = sub := ⟨_, rfl⟩
      have hsl : tl sub = (tl s).dropLast := by rw [← hsub]; exact tl_init hn
      have hC := l05Beats_any sub w (by rw [← hsub, ByteArray.size_extract]; omega)
      have HZ := formR_3s hk hst
      rw [hsl] at hC
      generalize rdB (tl s).dropLast = r at *
      have hq : (((s[n]'hni).toNat : Int) == 42) = true := by rw [h42]; rfl
      have hC := hid hC
      have HZ := hid HZ
      clear hst hsl h42 hk
      go_enter Tryz.func59, Tryz.ntmps59
      go_wp2_with fail
      refine hC.out.mono ?_
      rintro e w1 ⟨⟨q, A, c, hA, hq7, rfl, ho, hqr⟩, hb1⟩
      clear ho
      cases r with
      | none =>
        clear hC hqr
        go_wp2
        go_ret
        exact ⟨by rw [HZ.out]; rfl, hb1⟩
      | some q1 =>
        have e1 := hqr q1 rfl
        subst e1
        clear hC hqr
        by_cases h3 : q1.length ≤ 3
        · have h3I : 2 * (q1.length : Int) ≤ 6 := by omega
          go_wp2
          go_ret
          exact ⟨by rw [HZ.out, halfR_some, decide_eq_true h3]; first | done | rfl | (show Ending.returned (.bool (decide (2 * (q1.length : Int) ≤ 6))) = _; rw [decide_eq_true h3I]), hb1⟩
        · have h3I : ¬ 2 * (q1.length : Int) ≤ 6 := by omega
          go_wp2
          go_ret
          exact ⟨by rw [HZ.out, halfR_some, decide_eq_false h3]; first | done | rfl | (show Ending.returned (.bool (decide (2 * (q1.length : Int) ≤ 6))) = _; rw [decide_eq_false (show ¬ 2 * (q1.length : Int) ≤ 6 by omega)]), hb1⟩
    · have h42 : s[n]'hni ≠ 42 := fun e => hst (by rw [tl_last hn, e])
      have hq : (((s[n]'hni).toNat : Int) == 42) = false := by rw [show (42 : Int) = ((42 : UInt8).toNat : Int) from rfl, u8_eq]; exact decide_eq_false h42
      have hC := hid (l05Beats_any s w (by omega))
      have HZ := hid (formR_3 hk hst)
      clear hst h42 hk
      go_enter Tryz.func59, Tryz.ntmps59
      go_wp2_with fail
      refine hC.out.mono ?_
      rintro e w1 ⟨⟨q, A, c, hA, hq7, rfl, ho, hqr⟩, hb1⟩
      clear ho hC hqr
      go_wp2
      go_ret
      exact ⟨ret_bool HZ.out.symm, hb1⟩
  · have HZ := hid (formR_4 hk)
    have hT := hid (l06Read_any s w (by omega))
    rw [hk]
    clear hk
    go_enter Tryz.func59, Tryz.ntmps59
    go_wp2_with fail
    refine hT.out.mono ?_
    rintro e w1 ⟨⟨p, _, _, ⟨A, c, A', c', _, _, rfl, _, _⟩, _⟩, hb⟩
    clear hT
    go_wp2
    go_ret
    exact ⟨ret_bool HZ.out.symm, (by repeat' (first | exact Below.refl _ _ | (with_reducible assumption) | (with_reducible refine Below.alloc ?_ ?_ _) | (with_reducible refine Below.setCell ?_ ?_ _) | (with_reducible refine Below.drew ?_) | (with_reducible refine below_drewN ?_ _) | (refine Below.trans ?_ (Below.mono (by assumption) ?_)) | (with_reducible exact Nat.le_refl _) | (with_reducible assumption) | (exact Below.size (by assumption)) | omega | go_size | (simp at *; omega)))⟩
end Go.Proofs.YtkglkpohbckpcaaGreat
