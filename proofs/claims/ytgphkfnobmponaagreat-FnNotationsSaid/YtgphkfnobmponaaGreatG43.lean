/- Several texts in one: Wv, Nh, Qn. -/
import Derived.Test.YtgphkfnobmponaaGreatWu
import Derived.Test.YtgphkfnobmponaaGreatG41
import Derived.Test.YtgphkfnobmponaaGreatG25
import Derived.Test.YtgphkfnobmponaaGreatNd
import Derived.Test.YtgphkfnobmponaaGreatG38
import Derived.Test.YtgphkfnobmponaaGreatG06
import Derived.Test.YtgphkfnobmponaaGreatDw
import Derived.Deep.CutBlock
/- The text of a drawn notation: a contract that tells the bound of its length alone. -/
namespace Go.Proofs.YtgphkfnobmponaaGreat
open Go.RowKit
set_option linter.unusedVariables false

/-- What a drawn notation is. -/
def TxOk (x : Note) : Prop := (x.1 = 1 ∧ okP x.2.1 = true) ∨ (x.1 = 2 ∧ x.2.2.1.length ≤ 13 ∧ mBd x.2.2.1) ∨ (x.1 = 3 ∧ x.2.2.2.1.length ≤ 6 ∧ yBd x.2.2.2.1) ∨ (x.1 = 4 ∧ x.2.2.2.2.1.length ≤ 8 ∧ x.2.2.2.2.2.length ≤ 8 ∧ qBd x.2.2.2.2.1 ∧ qBd x.2.2.2.2.2)
def ShortS (e : Ending) : Prop := ∃ T : ByteArray, e = .returned (.string T) ∧ T.size ≤ 100
set_option maxRecDepth 100000 in
set_option maxHeartbeats 4000000 in
theorem l07Text_b (g : Nat) (k : Int) (p : List Int) (m : List (List Int)) (y : List Beat) (q1 q2 : List PT) (s : Six) (w : World) (hx : Bx w g 33 #[.int .i64 k, .slice s.A p.length s.c, .slice s.A2 m.length s.c2, .slice s.A3 y.length s.c3, .slice s.A4 q1.length s.c4, .slice s.A5 q2.length s.c5]) (h : NtRd (k, p, m, y, (q1, q2)) s w) (hv : TxOk (k, p, m, y, (q1, q2))) :
    Calls Tryz.prog 48 #[.pointer (some ⟨g, 0, none⟩)] w fun e w' => ShortS e ∧ Below w.heap.size w w' := by
  obtain ⟨A, c, A2, c2, A3, c3, A4, c4, A5, c5⟩ := s
  obtain ⟨H1, H2, H3, H4, H5⟩ := h
  simp only at hx H1 H2 H3 H4 H5
  have hgl := hx.lt
  obtain ⟨⟨a0, a1, a2, a3, a4, a5⟩, -⟩ := zc hx
  unfold TxOk at hv
  simp only at hv
  rcases hv with ⟨rfl, hp⟩ | ⟨rfl, hn, hb⟩ | ⟨rfl, hn, hb⟩ | ⟨rfl, h1, h2, b1, b2⟩
  · have hD := hid (l02Text_any A p.length c p w hp H1)
    have hT : (st (p.map hexU)).size ≤ 100 := by rw [st_size, List.length_map]; have := (thOk_iff (okP_th hp)).2.2; omega
    generalize st (p.map hexU) = T at *
    clear hx H1 H2 H3 H4 H5 hp
    go_enter Tryz.func48, Tryz.ntmps48
    go_wp2_with fail
    refine hD.out.mono ?_
    rintro e w2 ⟨rfl, hb2⟩
    clear hD a0 a1 a2 a3 a4 a5
    go_wp2
    go_ret
    exact ⟨⟨T, rfl, hT⟩, hb2⟩
  · have hD := hid (l04Text_b g 2 A2 m.length c2 m w hn hb (Bo.one hgl a2) H2)
    have hT : (st (mT m)).size ≤ 100 := by rw [st_size]; have := mT_len m (fun r hr => (hb r hr).1.2); omega
    generalize st (mT m) = T at *
    clear hx H1 H2 H3 H4 H5 hb
    go_enter Tryz.func48, Tryz.ntmps48
    go_wp2_with fail
    refine hD.out.mono ?_
    rintro e w2 ⟨rfl, rfl⟩
    clear hD a0 a1 a2 a3 a4 a5
    go_wp2
    go_ret
    exact ⟨⟨T, rfl, hT⟩, Below.refl _ _⟩
  · have hD := hid (l05Text_b A3 y.length c3 y w hn hb H3)
    have hT : (st (syT y)).size ≤ 100 := by rw [st_size]; have := syT_len y; omega
    generalize st (syT y) = T at *
    clear hx H1 H2 H3 H4 H5 hb
    go_enter Tryz.func48, Tryz.ntmps48
    go_wp2_with fail
    refine hD.out.mono ?_
    rintro e w2 ⟨rfl, hb2⟩
    clear hD a0 a1 a2 a3 a4 a5
    go_wp2
    go_ret
    exact ⟨⟨T, rfl, hT⟩, hb2⟩
  · have hD := hid (l06Both_b g 4 A4 A5 q1.length c4 q2.length c5 (q1, q2) w h1 h2 b1 b2 (Bo.two hgl a4 a5) H4 H5)
    have hT : (st (paT (q1, q2))).size ≤ 100 := by rw [st_size]; have := paT_len (q1, q2); simp only at this; omega
    generalize st (paT (q1, q2)) = T at *
    clear hx H1 H2 H3 H4 H5 b1 b2
    go_enter Tryz.func48, Tryz.ntmps48
    go_wp2_with fail
    refine hD.out.mono ?_
    rintro e w2 ⟨rfl, hb2⟩
    clear hD a0 a1 a2 a3 a4 a5
    go_wp2
    go_ret
    exact ⟨⟨T, rfl, hT⟩, hb2⟩
end Go.Proofs.YtgphkfnobmponaaGreat

/- Contracts of hasForm, both. -/
namespace Go.Proofs.YtgphkfnobmponaaGreat
open Go.RowKit
set_option linter.unusedVariables false

theorem halfR_some {p : List Beat} : halfR (some p) = decide (p.length ≤ 3) := rfl
theorem formR_1 {l : List UInt8} (h : kinR l = 1) : formR l = thOk (rdDig l) := by rw [formR, if_pos h]
theorem formR_2 {l : List UInt8} (h : kinR l = 2) : formR l = (rdM l).isSome := by rw [formR, if_neg (by omega), if_pos h]
theorem formR_3s {l : List UInt8} (h : kinR l = 3) (hs : l.getLast? = some 42) : formR l = halfR (rdB l.dropLast) := by rw [formR, if_neg (by omega), if_neg (by omega), if_pos h, if_pos hs]
theorem formR_3 {l : List UInt8} (h : kinR l = 3) (hs : l.getLast? ≠ some 42) : formR l = (rdB l).isSome := by rw [formR, if_neg (by omega), if_neg (by omega), if_pos h, if_neg hs]
theorem formR_4 {l : List UInt8} (h : kinR l = 4) : formR l = (rdPa l).isSome := by rw [formR, if_neg (by omega), if_neg (by omega), if_neg (by omega)]
theorem thOk_big {s : ByteArray} (h : 12 < s.size) : thOk (rdDig (tl s)) = false := by
  cases hb : thOk (rdDig (tl s)) with
  | false => rfl
  | true => have h1 := (thOk_iff hb).2.2; have h2 := rdDig_len s; simp only [tl] at h1; omega
set_option maxRecDepth 100000 in
set_option maxHeartbeats 2000000 in
theorem hasForm_any (s : ByteArray) (w : World) (h0 : 0 < s.size) (hs : s.size ≤ 200) :
    Calls Tryz.prog 38 #[.string s] w fun e w' => e = .returned (.bool (formR (tl s))) ∧ Below w.heap.size w w' := by
  have hK := KindOfText_any s w (by omega)
  rcases kinR_cases (tl s) with hk | hk | hk | hk
  · have HZ := hid (formR_1 hk)
    have hK : Calls Tryz.prog 22 #[.string s] w fun e w' => e = .returned (.int .i64 1) ∧ w = w' := by rw [hk] at hK; exact hK
    have hK := hid hK
    by_cases hbig : s.size ≤ 12
    · have hT := hid (readThrows_any s hbig w)
      clear hk
      go_enter Tryz.func38, Tryz.ntmps38
      go_wp2_with fail
      refine hK.out.mono ?_
      rintro e w1 ⟨rfl, rfl⟩
      go_wp2_with fail
      refine hT.out.mono ?_
      rintro e w1 ⟨v, rfl, ho, hb⟩
      clear ho hT hK
      go_wp2
      go_ret
      exact ⟨ret_bool HZ.out.symm, hb⟩
    · have hB := hid (thOk_big (s := s) (by omega))
      have hT : Calls Tryz.prog 39 #[.string s] w fun e w' => e = .returned (.tuple #[.slice none 0 0, .bool false]) ∧ w = w' := by
        clear hK HZ hk
        go_enter Tryz.func39, Tryz.ntmps39
        go_wp2
        go_ret2
        exact ⟨rfl, rfl⟩
      have hT := hid hT
      clear hk
      go_enter Tryz.func38, Tryz.ntmps38
      go_wp2_with fail
      refine hK.out.mono ?_
      rintro e w1 ⟨rfl, rfl⟩
      go_wp2_with fail
      refine hT.out.mono ?_
      rintro e w1 ⟨rfl, rfl⟩
      go_wp2
      go_ret
      exact ⟨by rw [HZ.out, hB.out]; try rfl, (by repeat' (first | exact Below.refl _ _ | (with_reducible first | assumption | exact Nat.le_refl _ | refine Below.alloc ?_ ?_ _ | refine Below.setCell ?_ ?_ _ | refine Below.drew ?_ | refine below_drewN ?_ _) | refine Below.trans ?_ (Below.mono (by assumption) ?_) | exact Below.size (by assumption) | omega | go_size | (simp at *; omega)))⟩
  · have HZ := hid (formR_2 hk)
    have hK : Calls Tryz.prog 22 #[.string s] w fun e w' => e = .returned (.int .i64 2) ∧ w = w' := by rw [hk] at hK; exact hK
    have hK := hid hK
    have hT := hid (readStacks_any s w (by omega))
    clear hk
    go_enter Tryz.func38, Tryz.ntmps38
    go_wp2_with fail
    refine hK.out.mono ?_
    rintro e w1 ⟨rfl, rfl⟩
    go_wp2_with fail
    refine hT.out.mono ?_
    rintro e w1 ⟨⟨q, A, c, _, _, rfl, _, _⟩, hb⟩
    clear hT hK
    go_wp2
    go_ret
    exact ⟨ret_bool HZ.out.symm, hb⟩
  · have hK : Calls Tryz.prog 22 #[.string s] w fun e w' => e = .returned (.int .i64 3) ∧ w = w' := by rw [hk] at hK; exact hK
    have hK := hid hK
    obtain ⟨n, hn⟩ : ∃ n, s.size = n + 1 := ⟨s.size - 1, by omega⟩
    have hni : n < s.size := by omega
    have hnI : (n : Int) < (s.size : Int) := by omega
    have hn2 : (n : Int) ≤ (s.size : Int) := by omega
    have hn0 : (0 : Int) ≤ (n : Int) := by omega
    have hsz : IntKind.i64.wrap ((s.size : Int) - 1) = (n : Int) := by rw [show (s.size : Int) - 1 = (n : Int) by omega]; exact IntWalk.i64_in (n : Int) (by omega)
    by_cases hst : (tl s).getLast? = some 42
    · have h42 := hst
      rw [tl_last hn] at h42
      injection h42 with h42
      obtain ⟨sub, hsub⟩ : ∃ sub, s.extract 0 n = sub := ⟨_, rfl⟩
      have hsl : tl sub = (tl s).dropLast := by rw [← hsub]; exact tl_init hn
      have hC := readBeats_any sub w (by rw [← hsub, ByteArray.size_extract]; omega)
      have HZ := formR_3s hk hst
      rw [hsl] at hC
      generalize rdB (tl s).dropLast = r at *
      have hq : (((s[n]'hni).toNat : Int) == 42) = true := by rw [h42]; rfl
      have hC := hid hC
      have HZ := hid HZ
      clear hst hsl h42 hk
      go_enter Tryz.func38, Tryz.ntmps38
      go_wp2_with fail
      refine hK.out.mono ?_
      rintro e w1 ⟨rfl, rfl⟩
      go_wp2_with fail
      refine hC.out.mono ?_
      rintro e w1 ⟨⟨q, A, c, hA, hq7, rfl, ho, hqr⟩, hb1⟩
      clear ho
      cases r with
      | none =>
        clear hC hqr hK
        go_wp2
        go_ret
        exact ⟨by rw [HZ.out]; rfl, hb1⟩
      | some q1 =>
        have e1 := hqr q1 rfl
        subst e1
        clear hC hqr hK
        by_cases h3 : q1.length ≤ 3
        · have h3I : (q1.length : Int) ≤ 3 := by omega
          go_wp2
          go_ret
          exact ⟨by rw [HZ.out, halfR_some, decide_eq_true h3]; first | done | rfl | (show Ending.returned (.bool (decide ((q1.length : Int) ≤ 3))) = _; rw [decide_eq_true h3I]), hb1⟩
        · have h3I : ¬ (q1.length : Int) ≤ 3 := by omega
          go_wp2
          go_ret
          exact ⟨by rw [HZ.out, halfR_some, decide_eq_false h3]; first | done | rfl | (show Ending.returned (.bool (decide ((q1.length : Int) ≤ 3))) = _; rw [decide_eq_false (show ¬ (q1.length : Int) ≤ 3 by omega)]), hb1⟩
    · have h42 : s[n]'hni ≠ 42 := fun e => hst (by rw [tl_last hn, e])
      have hq : (((s[n]'hni).toNat : Int) == 42) = false := by rw [show (42 : Int) = ((42 : UInt8).toNat : Int) from rfl, u8_eq]; exact decide_eq_false h42
      have hC := hid (readBeats_any s w (by omega))
      have HZ := hid (formR_3 hk hst)
      clear hst h42 hk
      go_enter Tryz.func38, Tryz.ntmps38
      go_wp2_with fail
      refine hK.out.mono ?_
      rintro e w1 ⟨rfl, rfl⟩
      go_wp2_with fail
      refine hC.out.mono ?_
      rintro e w1 ⟨⟨q, A, c, hA, hq7, rfl, ho, hqr⟩, hb1⟩
      clear ho hC hK hqr
      go_wp2
      go_ret
      exact ⟨ret_bool HZ.out.symm, hb1⟩
  · have HZ := hid (formR_4 hk)
    have hK : Calls Tryz.prog 22 #[.string s] w fun e w' => e = .returned (.int .i64 4) ∧ w = w' := by rw [hk] at hK; exact hK
    have hK := hid hK
    have hT := hid (readForm_any s w (by omega))
    clear hk
    go_enter Tryz.func38, Tryz.ntmps38
    go_wp2_with fail
    refine hK.out.mono ?_
    rintro e w1 ⟨rfl, rfl⟩
    go_wp2_with fail
    refine hT.out.mono ?_
    rintro e w1 ⟨⟨p, _, _, ⟨A, c, A', c', _, _, rfl, _, _⟩, _⟩, hb⟩
    clear hT hK
    go_wp2
    go_ret
    exact ⟨ret_bool HZ.out.symm, (by repeat' (first | exact Below.refl _ _ | (with_reducible first | assumption | exact Nat.le_refl _ | refine Below.alloc ?_ ?_ _ | refine Below.setCell ?_ ?_ _ | refine Below.drew ?_ | refine below_drewN ?_ _) | refine Below.trans ?_ (Below.mono (by assumption) ?_) | exact Below.size (by assumption) | omega | go_size | (simp at *; omega)))⟩
set_option maxRecDepth 100000 in
set_option maxHeartbeats 2000000 in
theorem l07Form_any (s : ByteArray) (w : World) (h0 : 0 < s.size) (hs : s.size ≤ 200) :
    Calls Tryz.prog 42 #[.int .i64 (kinR (tl s) : Nat), .string s] w fun e w' => e = .returned (.bool (formR (tl s))) ∧ Below w.heap.size w w' := by
  rcases kinR_cases (tl s) with hk | hk | hk | hk
  · have HZ : Hid (formR (tl s) = thOk (rdDig s.data.toList)) := formR_1 hk
    have hT := l02Read_any s (by omega) w
    have hdl : (rdDig s.data.toList).length ≤ 200 := by rw [rdDig_len]; exact hs
    generalize rdDig s.data.toList = R at *
    have hT := hid hT
    have hL := hid (fun A n c p w => l02List_any A n c p w)
    rw [hk]
    clear hk
    go_enter Tryz.func42, Tryz.ntmps42
    go_wp2_with fail
    refine hT.out.mono ?_
    rintro e w1 ⟨v, rfl, ho, hb⟩
    obtain ⟨A1, c1, rfl⟩ := own_form ho
    have hR := hid (hL.out A1 R.length c1 R w1 (by omega) (Rd.of_own ho))
    clear hT hL ho
    go_wp2_with fail
    refine hR.out.mono ?_
    rintro e w2 ⟨rfl, rfl⟩
    go_wp2
    go_ret
    exact ⟨ret_bool HZ.out.symm, hb⟩
  · have HZ := hid (formR_2 hk)
    have hT := hid (l04Read_any s w (by omega))
    rw [hk]
    clear hk
    go_enter Tryz.func42, Tryz.ntmps42
    go_wp2_with fail
    refine hT.out.mono ?_
    rintro e w1 ⟨⟨q, A, c, ok, hq1, hq2, rfl, hG, hy, hn⟩, hb⟩
    clear hT
    cases ok with
    | false =>
      have HN := hid (hn rfl)
      clear hG hy hn
      go_wp2
      go_ret
      exact ⟨by rw [HZ.out, HN.out]; rfl, (by repeat' (first | exact Below.refl _ _ | (with_reducible first | assumption | exact Nat.le_refl _ | refine Below.alloc ?_ ?_ _ | refine Below.setCell ?_ ?_ _ | refine Below.drew ?_ | refine below_drewN ?_ _) | refine Below.trans ?_ (Below.mono (by assumption) ?_) | exact Below.size (by assumption) | omega | go_size | (simp at *; omega)))⟩
    | true =>
      have HY : Hid (formR (tl s) = msSh q) := by show _ = _; rw [HZ.out, hy rfl, shp_isSome]
      have hbx : Below w1.heap.size w1 (w1.alloc (Obj.cells #[.slice A q.length c] 27)) := (by repeat' (first | exact Below.refl _ _ | (with_reducible first | assumption | exact Nat.le_refl _ | refine Below.alloc ?_ ?_ _ | refine Below.setCell ?_ ?_ _ | refine Below.drew ?_ | refine below_drewN ?_ _) | refine Below.trans ?_ (Below.mono (by assumption) ?_) | exact Below.size (by assumption) | omega | go_size | (simp at *; omega)))
      have hX := Bx.new w1 27 #[.slice A q.length c]
      have hC := hid (l04Shape_any w1.heap.size A q.length c q _ (by omega) (fun r hr => by have := hq2 r hr; omega) hX ((hG.read.below hbx (Nat.le_refl _)).more hbx.size))
      clear hG hy hn hX
      go_wp2_with fail
      refine hC.out.mono ?_
      rintro e w2 ⟨rfl, hb2⟩
      clear hC
      have hB3 : Below w.heap.size w (w1.alloc (Obj.cells #[.slice A q.length c] 27)) := hb.trans (hbx.mono hb.size)
      have hB4 : Below w.heap.size w w2 := hB3.trans (hb2.mono hB3.size)
      go_wp2
      go_ret
      exact ⟨ret_bool HY.out.symm, hB4⟩
  · rw [hk]
    obtain ⟨n, hn⟩ : ∃ n, s.size = n + 1 := ⟨s.size - 1, by omega⟩
    have hni : n < s.size := by omega
    have hnI : (n : Int) < (s.size : Int) := by omega
    have hn2 : (n : Int) ≤ (s.size : Int) := by omega
    have hn0 : (0 : Int) ≤ (n : Int) := by omega
    have hsz : IntKind.i64.wrap ((s.size : Int) - 1) = (n : Int) := by rw [show (s.size : Int) - 1 = (n : Int) by omega]; exact IntWalk.i64_in (n : Int) (by omega)
    by_cases hst : (tl s).getLast? = some 42
    · have h42 := hst
      rw [tl_last hn] at h42
      injection h42 with h42
      obtain ⟨sub, hsub⟩ : ∃ sub, s.extract 0 n = sub := ⟨_, rfl⟩
      have hsl : tl sub = (tl s).dropLast := by rw [← hsub]; exact tl_init hn
      have hC := l05Beats_any sub w (by rw [← hsub, ByteArray.size_extract]; omega)
      have HZ := formR_3s hk hst
      rw [hsl] at hC
      generalize rdB (tl s).dropLast = r at *
      have hq : (((s[n]'hni).toNat : Int) == 42) = true := by rw [h42]; rfl
      have hC := hid hC
      have HZ := hid HZ
      clear hst hsl h42 hk
      go_enter Tryz.func42, Tryz.ntmps42
      go_wp2_with fail
      refine hC.out.mono ?_
      rintro e w1 ⟨⟨q, A, c, hA, hq7, rfl, ho, hqr⟩, hb1⟩
      clear ho
      cases r with
      | none =>
        clear hC hqr
        go_wp2
        go_ret
        exact ⟨by rw [HZ.out]; rfl, hb1⟩
      | some q1 =>
        have e1 := hqr q1 rfl
        subst e1
        clear hC hqr
        by_cases h3 : q1.length ≤ 3
        · have h3I : 2 * (q1.length : Int) ≤ 6 := by omega
          go_wp2
          go_ret
          exact ⟨by rw [HZ.out, halfR_some, decide_eq_true h3]; first | done | rfl | (show Ending.returned (.bool (decide (2 * (q1.length : Int) ≤ 6))) = _; rw [decide_eq_true h3I]), hb1⟩
        · have h3I : ¬ 2 * (q1.length : Int) ≤ 6 := by omega
          go_wp2
          go_ret
          exact ⟨by rw [HZ.out, halfR_some, decide_eq_false h3]; first | done | rfl | (show Ending.returned (.bool (decide (2 * (q1.length : Int) ≤ 6))) = _; rw [decide_eq_false (show ¬ 2 * (q1.length : Int) ≤ 6 by omega)]), hb1⟩
    · have h42 : s[n]'hni ≠ 42 := fun e => hst (by rw [tl_last hn, e])
      have hq : (((s[n]'hni).toNat : Int) == 42) = false := by rw [show (42 : Int) = ((42 : UInt8).toNat : Int) from rfl, u8_eq]; exact decide_eq_false h42
      have hC := hid (l05Beats_any s w (by omega))
      have HZ := hid (formR_3 hk hst)
      clear hst h42 hk
      go_enter Tryz.func42, Tryz.ntmps42
      go_wp2_with fail
      refine hC.out.mono ?_
      rintro e w1 ⟨⟨q, A, c, hA, hq7, rfl, ho, hqr⟩, hb1⟩
      clear ho hC hqr
      go_wp2
      go_ret
      exact ⟨ret_bool HZ.out.symm, hb1⟩
  · have HZ := hid (formR_4 hk)
    have hT := hid (l06Read_any s w (by omega))
    rw [hk]
    clear hk
    go_enter Tryz.func42, Tryz.ntmps42
    go_wp2_with fail
    refine hT.out.mono ?_
    rintro e w1 ⟨⟨p, _, _, ⟨A, c, A', c', _, _, rfl, _, _⟩, _⟩, hb⟩
    clear hT
    go_wp2
    go_ret
    exact ⟨ret_bool HZ.out.symm, (by repeat' (first | exact Below.refl _ _ | (with_reducible first | assumption | exact Nat.le_refl _ | refine Below.alloc ?_ ?_ _ | refine Below.setCell ?_ ?_ _ | refine Below.drew ?_ | refine below_drewN ?_ _) | refine Below.trans ?_ (Below.mono (by assumption) ?_) | exact Below.size (by assumption) | omega | go_size | (simp at *; omega)))⟩
end Go.Proofs.YtgphkfnobmponaaGreat

/- Contract of l06Bent. -/
namespace Go.Proofs.YtgphkfnobmponaaGreat
open Go.RowKit
set_option linter.unusedVariables false

/-- Cells of throws that are read: their block lies from C on and below B. -/
def RdP (w : World) (C B : Nat) (A : Option Addr) (n : Nat) (us : List Value) : Prop :=
  us.length = n * 2 ∧ (0 < n → ∃ b off, A = some ⟨b, off, none⟩ ∧ C ≤ b ∧ b < B ∧ ∀ (j : Nat) (u : Value), us[j]? = some u → w.cell? ⟨b, off + j, none⟩ = some u)
section
variable {w w' : World} {C C' B B' n : Nat} {A : Option Addr} {us : List Value}
theorem RdP.rd (h : RdP w C B A n us) : Rd w B 2 A n us :=
  ⟨h.1, fun hn => by
    obtain ⟨b, off, e, _, hb, hc⟩ := h.2 hn
    exact ⟨b, off, e, hb, hc⟩⟩
theorem RdP.keep (h : RdP w C B A n us) (hk : ∀ p : Addr, C ≤ p.block → p.block < B → w'.cell? p = w.cell? p) : RdP w' C B A n us :=
  ⟨h.1, fun hn => by
    obtain ⟨b, off, e, h0, hb, hc⟩ := h.2 hn
    exact ⟨b, off, e, h0, hb, fun j u hu => (hk _ h0 hb).trans (hc j u hu)⟩⟩
theorem RdP.more (h : RdP w C B A n us) (hC : C' ≤ C) (hB : B ≤ B') : RdP w C' B' A n us :=
  ⟨h.1, fun hn => by
    obtain ⟨b, off, e, h0, hb, hc⟩ := h.2 hn
    exact ⟨b, off, e, Nat.le_trans hC h0, Nat.lt_of_lt_of_le hb hB, hc⟩⟩
theorem RdP.setCell (h : RdP w C B A n us) {p : Addr} (hp : p.block < C) (u : Value) : RdP (w.setCell p u) C B A n us :=
  h.keep fun q h0 hq => by
    unfold World.cell?
    rw [Below.heap_setCell w p u q.block (by omega)]
theorem RdP.of_own {base c : Nat} {e : TypeId} (h : w.ownsRow base e 2 (.slice A n c) n us) : RdP w base w.heap.size A n us := by
  refine ⟨h.1, fun hn => ?_⟩
  obtain ⟨b, off, e1, hb, hc⟩ := (Rd.of_own h).2 hn
  refine ⟨b, off, e1, ?_, hb, hc⟩
  obtain ⟨g, c', e2, hge, _⟩ := own_block h hn
  injection e2 with e2 _ _
  rw [e1] at e2
  injection e2 with e2
  injection e2 with e2 _ _
  omega
theorem RdP.cut {k : Nat} {a : List PT} (h : RdP w C B A n (ths a)) (hk : k ≤ n) : RdP w C B A k (ths (a.take k)) := by
  have hl : a.length = n := by have := h.1; rw [ths_len] at this; omega
  refine ⟨by rw [ths_len, List.length_take]; omega, fun h0 => ?_⟩
  obtain ⟨b, off, e, h1, hb, hc⟩ := h.2 (by omega)
  refine ⟨b, off, e, h1, hb, fun j u hj => hc j u ?_⟩
  have e2 : ths a = ths (a.take k) ++ ths (a.drop k) := by rw [ths, ths, ths, ← List.flatMap_append, List.take_append_drop]
  rw [e2, List.getElem?_append_left (List.getElem?_eq_some_iff.1 hj).1]
  exact hj
end
/-- A drawn pattern, whatever it is. -/
def Pe (C : Nat) (w : World) (A : Option Addr) (n : Nat) (B : Option Addr) (m : Nat) : Prop := ∃ p : Psg, RdP w C w.heap.size A n (ths p.1) ∧ RdP w C w.heap.size B m (ths p.2) ∧ n ≤ 9 ∧ m ≤ 9
def PeRow (C : Nat) (w : World) (e : Ending) : Prop := ∃ A n c B m d, e = .returned (.agg #[.slice A n c, .slice B m d]) ∧ Pe C w A n B m
theorem PgAt.pe {C N gA cA gB cB : Nat} {w : World} (h : PgAt C N w gA cA gB cB) (hN : N ≤ 5) : Pe C w (some ⟨gA, 0, none⟩) N (some ⟨gB, 0, none⟩) N := by
  obtain ⟨a, b, h1, h2⟩ := h
  exact ⟨(a, b), RdP.of_own h1, RdP.of_own h2, by omega, by omega⟩
theorem PgAt.atB {B N gA cA gB cB i : Nat} {w : World} (h : PgAt B N w gA cA gB cB) (hi : i < N) : ∃ x : PT, w.cell? ⟨gB, i * 2, none⟩ = some (.int .i64 x.1) ∧ w.cell? ⟨gB, i * 2 + 1, none⟩ = some (.bool x.2) ∧ w.frozen? ⟨gB, i * 2, none⟩ = false ∧ w.frozen? ⟨gB, i * 2 + 1, none⟩ = false := by
  obtain ⟨a, b, hA, hB⟩ := h
  exact own_at hB hi
/-- The drawn pattern lies in the box gm, its rows the call's own. -/
def PnG (w0 : World) (g : Nat) (A : Option Addr) (n c : Nat) (xs : List Int) (K gm N gA cA gB cB : Nat) (w : World) : Prop :=
  Src w g A n c xs K ∧ w0.grownBy w (some g) ∧ Bx w w0.heap.size 31 #[.slice none 0 0, .slice none 0 0] ∧ Bx w gm 31 #[.slice (some ⟨gA, 0, none⟩) N cA, .slice (some ⟨gB, 0, none⟩) N cB] ∧ PgAt (w0.heap.size + 1) N w gA cA gB cB
/-- The drawn pattern lies in the box gm, its rows are read. -/
def PnE (w0 : World) (g : Nat) (A : Option Addr) (n c : Nat) (xs : List Int) (K gm : Nat) (A' : Option Addr) (n' c' : Nat) (B' : Option Addr) (m' d' : Nat) (w : World) : Prop :=
  Src w g A n c xs K ∧ w0.grownBy w (some g) ∧ Bx w w0.heap.size 31 #[.slice none 0 0, .slice none 0 0] ∧ Bx w gm 31 #[.slice A' n' c', .slice B' m' d'] ∧ Pe (w0.heap.size + 1) w A' n' B' m'
section
variable {w0 w w' : World} {g n c K gm N gA cA gB cB : Nat} {A : Option Addr} {xs : List Int}
theorem PnG.ask (h : PnG w0 g A n c xs K gm N gA cA gB cB w) (hgl : g < w0.heap.size) (hgm : w0.heap.size < gm) {K' : Nat} (hs : Src w' g A n c xs K') (hg : w.grownBy w' (some g)) : PnG w0 g A n c xs K' gm N gA cA gB cB w' := by
  obtain ⟨h1, h2, h3, h4, h5⟩ := h
  exact ⟨hs, grown_trans h2 hg, h3.grown hg (by intro e; injection e with e; omega), h4.grown hg (by intro e; injection e with e; omega), h5.ask h1 hg⟩
theorem PnG.below (h : PnG w0 g A n c xs K gm N gA cA gB cB w) (hb : Below w.heap.size w w') : PnG w0 g A n c xs K gm N gA cA gB cB w' := by
  obtain ⟨h1, h2, h3, h4, h5⟩ := h
  exact ⟨h1.below hb h1.lt, grown_bl h2 hb h2.size, h3.below hb h3.lt, h4.below hb h4.lt, h5.below hb⟩
theorem PnG.same (h : PnG w0 g A n c xs K gm N gA cA gB cB w) (hN : N ≤ 5) : PnE w0 g A n c xs K gm (some ⟨gA, 0, none⟩) N cA (some ⟨gB, 0, none⟩) N cB w := by
  obtain ⟨h1, h2, h3, h4, h5⟩ := h
  exact ⟨h1, h2, h3, h4, h5.pe hN⟩
theorem PnG.cut (h : PnG w0 g A n c xs K gm N gA cA gB cB w) (hgl : g < w0.heap.size) (hgm : w0.heap.size < gm) (hN : N ≤ 5) {k : Nat} (hk : k ≤ N) : PnE w0 g A n c xs K gm (some ⟨gA, 0, none⟩) k cA (some ⟨gB, 0, none⟩) N cB (w.setCell ⟨gm, 0, none⟩ (.slice (some ⟨gA, 0, none⟩) k cA)) := by
  obtain ⟨h1, h2, h3, h4, h5⟩ := h
  have hb : Below w0.heap.size w (w.setCell ⟨gm, 0, none⟩ (.slice (some ⟨gA, 0, none⟩) k cA)) := Below.setCell (Below.refl _ _) (by show w0.heap.size ≤ gm; omega) _
  have h6 := h5.setb h4 (i := 0) (.slice (some ⟨gA, 0, none⟩) k cA)
  obtain ⟨a, b, k1, k2⟩ := h6
  exact ⟨h1.below hb hgl, grown_bl h2 hb (Nat.le_refl _), h3.far (by show w0.heap.size ≠ gm; omega) _, h4.set_ 0 _, (a.take k, b), (RdP.of_own k1).cut hk, RdP.of_own k2, by omega, by omega⟩
theorem PnE.fin {A' B' : Option Addr} {n' c' m' d' : Nat} (h : PnE w0 g A n c xs K gm A' n' c' B' m' d' w) (hgl : g < w0.heap.size) {K' : Nat} (hK : K ≤ K') :
    PeRow w0.heap.size ((w.setCell ⟨w0.heap.size, 0, none⟩ (.slice A' n' c')).setCell ⟨w0.heap.size, 1, none⟩ (.slice B' m' d')) (.returned (.agg #[.slice A' n' c', .slice B' m' d'])) ∧ Src ((w.setCell ⟨w0.heap.size, 0, none⟩ (.slice A' n' c')).setCell ⟨w0.heap.size, 1, none⟩ (.slice B' m' d')) g A n c xs K' ∧ w0.grownBy ((w.setCell ⟨w0.heap.size, 0, none⟩ (.slice A' n' c')).setCell ⟨w0.heap.size, 1, none⟩ (.slice B' m' d')) (some g) := by
  obtain ⟨h1, h2, h3, h4, p, h5, h6, h7, h8⟩ := h
  have hb : Below w0.heap.size w ((w.setCell ⟨w0.heap.size, 0, none⟩ (.slice A' n' c')).setCell ⟨w0.heap.size, 1, none⟩ (.slice B' m' d')) := Below.setCell (Below.setCell (Below.refl _ _) (by show w0.heap.size ≤ w0.heap.size; exact Nat.le_refl _) _) (by show w0.heap.size ≤ w0.heap.size; exact Nat.le_refl _) _
  exact ⟨⟨A', n', c', B', m', d', rfl, p, ((h5.setCell (p := ⟨w0.heap.size, 0, none⟩) (Nat.lt_succ_self _) _).setCell (p := ⟨w0.heap.size, 1, none⟩) (Nat.lt_succ_self _) _).more (Nat.le_succ _) (by simp), ((h6.setCell (p := ⟨w0.heap.size, 0, none⟩) (Nat.lt_succ_self _) _).setCell (p := ⟨w0.heap.size, 1, none⟩) (Nat.lt_succ_self _) _).more (Nat.le_succ _) (by simp), h7, h8⟩, (h1.below hb hgl).more hK, grown_bl h2 hb (Nat.le_refl _)⟩
end
end Go.Proofs.YtgphkfnobmponaaGreat
