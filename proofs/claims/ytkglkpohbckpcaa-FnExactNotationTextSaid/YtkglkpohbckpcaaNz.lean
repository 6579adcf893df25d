/- Contracts of the laws' own helpers that copy arguments: passing patterns, notations. Printed by wip/gen_tonote.py. -/
import Derived.Test.YtkglkpohbckpcaaNw
import Derived.Test.YtkglkpohbckpcaaNy
namespace Go.Proofs.Ytkglkpohbckpcaa
open Go.RowKit
set_option linter.unusedVariables false

set_option maxHeartbeats 4000000 in
theorem toPassing_any (A B : Option Addr) (n c m d : Nat) (p : Psg) (w : World) (hn : n ≤ 1099511627776) (hm : m ≤ 1099511627776) (h : Rd w w.heap.size 2 A n (ths p.1)) (h' : Rd w w.heap.size 2 B m (ths p.2)) :
    Calls Try.prog 88 #[.agg #[.slice A n c, .slice B m d]] w fun e w' => (∃ A' c' B' d', e = .returned (.agg #[.slice A' n c', .slice B' m d']) ∧ w'.ownsRow w.heap.size 140 2 (.slice A' n c') n (ths p.1) ∧ w'.ownsRow w.heap.size 140 2 (.slice B' m d') m (ths p.2)) ∧ Below w.heap.size w w' := by
  have C1 := fun (w1 : World) (b : Below w.heap.size w w1) => toPassThrowS_any A n c p.1 w1 hn ((h.below b (Nat.le_refl _)).more b.size)
  have C2 := fun (w1 : World) (b : Below w.heap.size w w1) => toPassThrowS_any B m d p.2 w1 hm ((h'.below b (Nat.le_refl _)).more b.size)
  obtain ⟨W, hW⟩ : ∃ W, (((w.alloc (Obj.cells #[.slice A n c, .slice B m d] 29)).alloc (Obj.cells #[.slice none 0 0, .slice none 0 0] 38)).alloc (Obj.cells #[.slice none 0 0, .slice none 0 0] 38)) = W := ⟨_, rfl⟩
  have hbW : Below w.heap.size w W := by rw [← hW]; exact (by repeat' (first | exact Below.refl _ _ | (with_reducible assumption) | (with_reducible refine Below.alloc ?_ ?_ _) | (with_reducible refine Below.setCell ?_ ?_ _) | (with_reducible refine Below.drew ?_) | (with_reducible refine below_drewN ?_ _) | (refine Below.trans ?_ (Below.mono (by assumption) ?_)) | (with_reducible exact Nat.le_refl _) | (with_reducible assumption) | (exact Below.size (by assumption)) | omega | go_size | (simp at *; omega)))
  have hZ : W.heap.size = w.heap.size + 3 := by rw [← hW]; simp
  have hA : Bx W w.heap.size 29 #[.slice A n c, .slice B m d] := by rw [← hW]; exact ((Bx.new _ _ _).alloc _).alloc _
  have hX : Bx W (w.heap.size + 1) 38 #[.slice none 0 0, .slice none 0 0] := by
    rw [← hW]
    have := Bx.new (w.alloc (Obj.cells #[.slice A n c, .slice B m d] 29)) 38 #[.slice none 0 0, .slice none 0 0]
    rw [show (w.alloc (Obj.cells #[.slice A n c, .slice B m d] 29)).heap.size = w.heap.size + 1 by simp] at this
    exact this.alloc _
  have hY : Bx W (w.heap.size + 1 + 1) 38 #[.slice none 0 0, .slice none 0 0] := by
    rw [← hW]
    have := Bx.new ((w.alloc (Obj.cells #[.slice A n c, .slice B m d] 29)).alloc (Obj.cells #[.slice none 0 0, .slice none 0 0] 38)) 38 #[.slice none 0 0, .slice none 0 0]
    rw [show ((w.alloc (Obj.cells #[.slice A n c, .slice B m d] 29)).alloc (Obj.cells #[.slice none 0 0, .slice none 0 0] 38)).heap.size = w.heap.size + 1 + 1 by simp] at this
    exact this
  have hC1 := C1 W hbW
  rw [← hW] at hC1
  have hC1 := hid hC1
  have HC2 := hid C2
  have HBW := hid hbW
  have HA := hid hA
  have HX := hid hX
  have HY := hid hY
  have HZ := hid hZ
  have HW := hid hW
  clear hbW hX hY hZ hW hA h h' C1 C2
  go_enter Try.func88, Try.ntmps88
  go_wp2_with fail
  refine hC1.out.mono ?_
  rw [HW.out]
  rintro e w1 ⟨⟨A1, c1, rfl, ho1⟩, hb1⟩
  rw [HZ.out] at ho1
  have Hho1_1 := hid ho1
  have z1 := hb1.size
  rw [HZ.out] at z1
  have hA1 := HA.out.below hb1 (by rw [HZ.out]; omega)
  have hX1 := HX.out.below hb1 (by rw [HZ.out]; omega)
  have hY1 := HY.out.below hb1 (by rw [HZ.out]; omega)
  have hB1 := HBW.out.trans (hb1.mono HBW.out.size)
  have hXs1 := (hX1).far (p := ⟨w.heap.size + 1 + 1, 0, none⟩) (by show _ ≠ w.heap.size + 1 + 1; omega) (.slice A1 n c1)
  have hAs1 := (hA1).far (p := ⟨w.heap.size + 1 + 1, 0, none⟩) (by show _ ≠ w.heap.size + 1 + 1; omega) (.slice A1 n c1)
  have hYs1 := (hY1).set_ 0 (.slice A1 n c1)
  replace hYs1 : Bx (w1.setCell ⟨w.heap.size + 1 + 1, 0, none⟩ (.slice A1 n c1)) (w.heap.size + 1 + 1) 38 #[.slice A1 n c1, .slice none 0 0] := hYs1
  have hBs1 : Below w.heap.size w (w1.setCell ⟨w.heap.size + 1 + 1, 0, none⟩ (.slice A1 n c1)) := (hB1).setCell (p := ⟨w.heap.size + 1 + 1, 0, none⟩) (by show w.heap.size ≤ w.heap.size + 1 + 1; omega) (.slice A1 n c1)
  have zs1 : w.heap.size + 3 ≤ (w1.setCell ⟨w.heap.size + 1 + 1, 0, none⟩ (.slice A1 n c1)).heap.size := by simpa using z1
  obtain ⟨⟨y0, y1⟩, ⟨f0, f1⟩⟩ := zc2 hY1
  obtain ⟨⟨a0, a1⟩, -⟩ := zc2 hAs1
  have l1 : w.heap.size + 1 + 1 < w1.heap.size := by omega
  have k1 : w.heap.size + 1 < w1.heap.size := by omega
  have HX1 := hid hXs1
  have HA1 := hid hAs1
  have HY1 := hid hYs1
  have HB1 := hid hBs1
  have HZ1 := hid zs1
  clear ho1 hb1 hX1 hY1 hA1 hXs1 hYs1 hAs1 hB1 hBs1 zs1 z1 hC1 HBW HA HX HY HZ HW
  go_wp2_with fail
  refine (HC2.out _ HB1.out).mono ?_
  clear y0 y1 f0 f1 a0 a1 l1 k1
  rintro e w2 ⟨⟨B1, d1, rfl, ho2⟩, hb2⟩
  replace ho2 := own_more ho2 HZ1.out
  have Hho2_2 := hid ho2
  have Hho1_2 := hid (own_below (own_put0 Hho1_1.out (p := ⟨w.heap.size + 1 + 1, 0, none⟩) (by show w.heap.size + 1 + 1 < w.heap.size + 3; omega) (.slice A1 n c1)) hb2)
  have z2 := hb2.size
  replace z2 := Nat.le_trans HZ1.out z2
  have hA2 := HA1.out.below hb2 (Nat.lt_of_lt_of_le (by omega) HZ1.out)
  have hX2 := HX1.out.below hb2 (Nat.lt_of_lt_of_le (by omega) HZ1.out)
  have hY2 := HY1.out.below hb2 (Nat.lt_of_lt_of_le (by omega) HZ1.out)
  have hB2 := HB1.out.trans (hb2.mono HB1.out.size)
  have hXs2 := (hX2).far (p := ⟨w.heap.size + 1 + 1, 1, none⟩) (by show _ ≠ w.heap.size + 1 + 1; omega) (.slice B1 m d1)
  have hAs2 := (hA2).far (p := ⟨w.heap.size + 1 + 1, 1, none⟩) (by show _ ≠ w.heap.size + 1 + 1; omega) (.slice B1 m d1)
  have hYs2 := (hY2).set_ 1 (.slice B1 m d1)
  replace hYs2 : Bx (w2.setCell ⟨w.heap.size + 1 + 1, 1, none⟩ (.slice B1 m d1)) (w.heap.size + 1 + 1) 38 #[.slice A1 n c1, .slice B1 m d1] := hYs2
  have hBs2 : Below w.heap.size w (w2.setCell ⟨w.heap.size + 1 + 1, 1, none⟩ (.slice B1 m d1)) := (hB2).setCell (p := ⟨w.heap.size + 1 + 1, 1, none⟩) (by show w.heap.size ≤ w.heap.size + 1 + 1; omega) (.slice B1 m d1)
  have zs2 : w.heap.size + 3 ≤ (w2.setCell ⟨w.heap.size + 1 + 1, 1, none⟩ (.slice B1 m d1)).heap.size := by simpa using z2
  obtain ⟨⟨y0, y1⟩, ⟨f0, f1⟩⟩ := zc2 hY2
  obtain ⟨⟨a0, a1⟩, -⟩ := zc2 hAs2
  obtain ⟨⟨p0, p1⟩, ⟨g0, g1⟩⟩ := zc2 hXs2
  obtain ⟨⟨r0, r1⟩, -⟩ := zc2 hYs2
  have l2 : w.heap.size + 1 + 1 < w2.heap.size := by omega
  have k2 : w.heap.size + 1 < w2.heap.size := by omega
  have HX2 := hid hXs2
  have HA2 := hid hAs2
  have HY2 := hid hYs2
  have HB2 := hid hBs2
  have HZ2 := hid zs2
  clear ho2 hb2 hX2 hY2 hA2 hXs2 hYs2 hAs2 hB2 hBs2 zs2 z2
  go_wp2
  refine bodyPost_ret (v := .agg #[.slice A1 n c1, .slice B1 m d1]) ?_ rfl ?_
  · simp (maxDischargeDepth := 8) [results, Try.results88, go_sem, *]
  clear y0 y1 f0 f1 a0 a1 p0 p1 g0 g1 r0 r1
  have zz := HZ2.out
  refine ⟨⟨A1, c1, B1, d1, rfl, ?_, ?_⟩, (by repeat' (first | (with_reducible exact HB2.out) | (with_reducible refine Below.setCell ?_ ?_ _) | (dsimp only; omega)))⟩
  · refine own_more (base := w.heap.size + 3) ?_ (by omega)
    repeat' (first | (with_reducible exact Hho1_2.out) | (with_reducible refine own_put0 ?_ ?_ _) | (dsimp only; omega))
  · refine own_more (base := w.heap.size + 3) ?_ (by omega)
    repeat' (first | (with_reducible exact Hho2_2.out) | (with_reducible refine own_put0 ?_ ?_ _) | (dsimp only; omega))
set_option maxRecDepth 100000 in
set_option maxHeartbeats 8000000 in
theorem toNotation_any (k : Int) (p : List Int) (m : List (List Int)) (y : List Beat) (q1 q2 : List PT) (s : Six) (w : World) (hs : NtSm (k, p, m, y, (q1, q2))) (h : NtRd (k, p, m, y, (q1, q2)) s w) :
    Calls Try.prog 15 #[.agg #[.int .i64 k, .slice s.A p.length s.c, .slice s.A2 m.length s.c2, .slice s.A3 y.length s.c3, .slice s.A4 q1.length s.c4, .slice s.A5 q2.length s.c5]] w fun e w' => (∃ t : Six, e = .returned (.agg #[.int .i64 k, .slice t.A p.length t.c, .slice t.A2 m.length t.c2, .slice t.A3 y.length t.c3, .slice t.A4 q1.length t.c4, .slice t.A5 q2.length t.c5]) ∧ NtRd (k, p, m, y, (q1, q2)) t w') ∧ Below w.heap.size w w' := by
  obtain ⟨A, c, A2, c2, A3, c3, A4, c4, A5, c5⟩ := s
  obtain ⟨l1, ⟨l2, l3, _⟩, l4, l5, l6⟩ := hs
  simp only at l1 l2 l3 l4 l5 l6 ⊢
  have H := fun (w1 : World) (b : Below w.heap.size w w1) => h.below b
  unfold NtRd at H
  simp only at H
  have C1 : ∀ (w1 : World), Below w.heap.size w w1 → Calls Try.prog 85 #[.slice A p.length c] w1 fun e w' => (∃ A' c', e = .returned (.slice A' p.length c') ∧ w'.ownsRow w1.heap.size 2 1 (.slice A' p.length c') p.length (ints p)) ∧ Below w1.heap.size w1 w' := fun w1 b =>
    (toInt64S_any A p.length c p w1 (by omega) (H w1 b).1).mono fun e w' ⟨v, h1, h2, h3⟩ => by
      obtain ⟨A', c', rfl⟩ := own_form h2
      exact ⟨⟨A', c', h1, h2⟩, h3⟩
  have C2 := fun (w1 : World) (b : Below w.heap.size w w1) => toMulti_any A2 m.length c2 m w1 (by omega) (fun r hr => by have := l3 r hr; omega) (H w1 b).2.1
  have C3 := fun (w1 : World) (b : Below w.heap.size w w1) => toSyncBeatS_any A3 y.length c3 y w1 (by omega) (H w1 b).2.2.1
  have C4 := fun (w1 : World) (b : Below w.heap.size w w1) => toPassing_any A4 A5 q1.length c4 q2.length c5 (q1, q2) w1 (by omega) (by omega) (H w1 b).2.2.2.1 (H w1 b).2.2.2.2
  obtain ⟨W, hW⟩ : ∃ W, (((w.alloc (Obj.cells #[.int .i64 k, .slice A p.length c, .slice A2 m.length c2, .slice A3 y.length c3, .slice A4 q1.length c4, .slice A5 q2.length c5] 31)).alloc (Obj.cells #[.int .i64 0, .slice none 0 0, .slice none 0 0, .slice none 0 0, .slice none 0 0, .slice none 0 0] 40)).alloc (Obj.cells #[.int .i64 k, .slice none 0 0, .slice none 0 0, .slice none 0 0, .slice none 0 0, .slice none 0 0] 40)) = W := ⟨_, rfl⟩
  have hbW : Below w.heap.size w W := by rw [← hW]; exact (by repeat' (first | exact Below.refl _ _ | (with_reducible assumption) | (with_reducible refine Below.alloc ?_ ?_ _) | (with_reducible refine Below.setCell ?_ ?_ _) | (with_reducible refine Below.drew ?_) | (with_reducible refine below_drewN ?_ _) | (refine Below.trans ?_ (Below.mono (by assumption) ?_)) | (with_reducible exact Nat.le_refl _) | (with_reducible assumption) | (exact Below.size (by assumption)) | omega | go_size | (simp at *; omega)))
  have hZ : W.heap.size = w.heap.size + 3 := by rw [← hW]; simp
  have hA : Bx W w.heap.size 31 #[.int .i64 k, .slice A p.length c, .slice A2 m.length c2, .slice A3 y.length c3, .slice A4 q1.length c4, .slice A5 q2.length c5] := by rw [← hW]; exact ((Bx.new _ _ _).alloc _).alloc _
  have hX : Bx W (w.heap.size + 1) 40 #[.int .i64 0, .slice none 0 0, .slice none 0 0, .slice none 0 0, .slice none 0 0, .slice none 0 0] := by
    rw [← hW]
    have := Bx.new (w.alloc (Obj.cells #[.int .i64 k, .slice A p.length c, .slice A2 m.length c2, .slice A3 y.length c3, .slice A4 q1.length c4, .slice A5 q2.length c5] 31)) 40 #[.int .i64 0, .slice none 0 0, .slice none 0 0, .slice none 0 0, .slice none 0 0, .slice none 0 0]
    rw [show (w.alloc (Obj.cells #[.int .i64 k, .slice A p.length c, .slice A2 m.length c2, .slice A3 y.length c3, .slice A4 q1.length c4, .slice A5 q2.length c5] 31)).heap.size = w.heap.size + 1 by simp] at this
    exact this.alloc _
  have hY : Bx W (w.heap.size + 1 + 1) 40 #[.int .i64 k, .slice none 0 0, .slice none 0 0, .slice none 0 0, .slice none 0 0, .slice none 0 0] := by
    rw [← hW]
    have := Bx.new ((w.alloc (Obj.cells #[.int .i64 k, .slice A p.length c, .slice A2 m.length c2, .slice A3 y.length c3, .slice A4 q1.length c4, .slice A5 q2.length c5] 31)).alloc (Obj.cells #[.int .i64 0, .slice none 0 0, .slice none 0 0, .slice none 0 0, .slice none 0 0, .slice none 0 0] 40)) 40 #[.int .i64 k, .slice none 0 0, .slice none 0 0, .slice none 0 0, .slice none 0 0, .slice none 0 0]
    rw [show ((w.alloc (Obj.cells #[.int .i64 k, .slice A p.length c, .slice A2 m.length c2, .slice A3 y.length c3, .slice A4 q1.length c4, .slice A5 q2.length c5] 31)).alloc (Obj.cells #[.int .i64 0, .slice none 0 0, .slice none 0 0, .slice none 0 0, .slice none 0 0, .slice none 0 0] 40)).heap.size = w.heap.size + 1 + 1 by simp] at this
    exact this
  have hC1 := C1 W hbW
  rw [← hW] at hC1
  have hC1 := hid hC1
  have HC2 := hid C2
  have HC3 := hid C3
  have HC4 := hid C4
  have HBW := hid hbW
  have HA := hid hA
  have HX := hid hX
  have HY := hid hY
  have HZ := hid hZ
  have HW := hid hW
  clear hbW hX hY hZ hW hA H h C1 C2 C3 C4
  go_enter Try.func15, Try.ntmps15
  go_wp2_with fail
  refine hC1.out.mono ?_
  rw [HW.out]
  rintro e w1 ⟨⟨B1, d1, rfl, ho1⟩, hb1⟩
  rw [HZ.out] at ho1
  have Hho1_1 := hid ho1
  have z1 := hb1.size
  rw [HZ.out] at z1
  have hA1 := HA.out.below hb1 (by rw [HZ.out]; omega)
  have hX1 := HX.out.below hb1 (by rw [HZ.out]; omega)
  have hY1 := HY.out.below hb1 (by rw [HZ.out]; omega)
  have hB1 := HBW.out.trans (hb1.mono HBW.out.size)
  have hXs1 := (hX1).far (p := ⟨w.heap.size + 1 + 1, 1, none⟩) (by show _ ≠ w.heap.size + 1 + 1; omega) (.slice B1 p.length d1)
  have hAs1 := (hA1).far (p := ⟨w.heap.size + 1 + 1, 1, none⟩) (by show _ ≠ w.heap.size + 1 + 1; omega) (.slice B1 p.length d1)
  have hYs1 := (hY1).set_ 1 (.slice B1 p.length d1)
  replace hYs1 : Bx (w1.setCell ⟨w.heap.size + 1 + 1, 1, none⟩ (.slice B1 p.length d1)) (w.heap.size + 1 + 1) 40 #[.int .i64 k, .slice B1 p.length d1, .slice none 0 0, .slice none 0 0, .slice none 0 0, .slice none 0 0] := hYs1
  have hBs1 : Below w.heap.size w (w1.setCell ⟨w.heap.size + 1 + 1, 1, none⟩ (.slice B1 p.length d1)) := (hB1).setCell (p := ⟨w.heap.size + 1 + 1, 1, none⟩) (by show w.heap.size ≤ w.heap.size + 1 + 1; omega) (.slice B1 p.length d1)
  have zs1 : w.heap.size + 3 ≤ (w1.setCell ⟨w.heap.size + 1 + 1, 1, none⟩ (.slice B1 p.length d1)).heap.size := by simpa using z1
  obtain ⟨⟨y0, y1, y2, y3, y4, y5⟩, ⟨f0, f1, f2, f3, f4, f5⟩⟩ := zc hY1
  obtain ⟨⟨a0, a1, a2, a3, a4, a5⟩, -⟩ := zc hAs1
  have l1 : w.heap.size + 1 + 1 < w1.heap.size := by omega
  have k1 : w.heap.size + 1 < w1.heap.size := by omega
  have HX1 := hid hXs1
  have HA1 := hid hAs1
  have HY1 := hid hYs1
  have HB1 := hid hBs1
  have HZ1 := hid zs1
  clear ho1 hb1 hX1 hY1 hA1 hXs1 hYs1 hAs1 hB1 hBs1 zs1 z1 hC1 HBW HA HX HY HZ HW
  go_wp2_with fail
  refine (HC2.out _ HB1.out).mono ?_
  clear y0 y1 y2 y3 y4 y5 f0 f1 f2 f3 f4 f5 a0 a1 a2 a3 a4 a5 l1 k1
  rintro e w2 ⟨⟨B2, d2, rfl, ho2⟩, hb2⟩
  replace ho2 := GW.more ho2 HZ1.out
  have Hho2_2 := hid ho2
  have Hho1_2 := hid (own_below (own_put0 Hho1_1.out (p := ⟨w.heap.size + 1 + 1, 1, none⟩) (by show w.heap.size + 1 + 1 < w.heap.size + 3; omega) (.slice B1 p.length d1)) hb2)
  have z2 := hb2.size
  replace z2 := Nat.le_trans HZ1.out z2
  have hA2 := HA1.out.below hb2 (Nat.lt_of_lt_of_le (by omega) HZ1.out)
  have hX2 := HX1.out.below hb2 (Nat.lt_of_lt_of_le (by omega) HZ1.out)
  have hY2 := HY1.out.below hb2 (Nat.lt_of_lt_of_le (by omega) HZ1.out)
  have hB2 := HB1.out.trans (hb2.mono HB1.out.size)
  have hXs2 := (hX2).far (p := ⟨w.heap.size + 1 + 1, 2, none⟩) (by show _ ≠ w.heap.size + 1 + 1; omega) (.slice B2 m.length d2)
  have hAs2 := (hA2).far (p := ⟨w.heap.size + 1 + 1, 2, none⟩) (by show _ ≠ w.heap.size + 1 + 1; omega) (.slice B2 m.length d2)
  have hYs2 := (hY2).set_ 2 (.slice B2 m.length d2)
  replace hYs2 : Bx (w2.setCell ⟨w.heap.size + 1 + 1, 2, none⟩ (.slice B2 m.length d2)) (w.heap.size + 1 + 1) 40 #[.int .i64 k, .slice B1 p.length d1, .slice B2 m.length d2, .slice none 0 0, .slice none 0 0, .slice none 0 0] := hYs2
  have hBs2 : Below w.heap.size w (w2.setCell ⟨w.heap.size + 1 + 1, 2, none⟩ (.slice B2 m.length d2)) := (hB2).setCell (p := ⟨w.heap.size + 1 + 1, 2, none⟩) (by show w.heap.size ≤ w.heap.size + 1 + 1; omega) (.slice B2 m.length d2)
  have zs2 : w.heap.size + 3 ≤ (w2.setCell ⟨w.heap.size + 1 + 1, 2, none⟩ (.slice B2 m.length d2)).heap.size := by simpa using z2
  obtain ⟨⟨y0, y1, y2, y3, y4, y5⟩, ⟨f0, f1, f2, f3, f4, f5⟩⟩ := zc hY2
  obtain ⟨⟨a0, a1, a2, a3, a4, a5⟩, -⟩ := zc hAs2
  have l2 : w.heap.size + 1 + 1 < w2.heap.size := by omega
  have k2 : w.heap.size + 1 < w2.heap.size := by omega
  have HX2 := hid hXs2
  have HA2 := hid hAs2
  have HY2 := hid hYs2
  have HB2 := hid hBs2
  have HZ2 := hid zs2
  clear ho2 hb2 hX2 hY2 hA2 hXs2 hYs2 hAs2 hB2 hBs2 zs2 z2
  go_wp2_with fail
  refine (HC3.out _ HB2.out).mono ?_
  clear y0 y1 y2 y3 y4 y5 f0 f1 f2 f3 f4 f5 a0 a1 a2 a3 a4 a5 l2 k2
  rintro e w3 ⟨⟨B3, d3, rfl, ho3⟩, hb3⟩
  replace ho3 := own_more ho3 HZ2.out
  have Hho3_3 := hid ho3
  have Hho1_3 := hid (own_below (own_put0 Hho1_2.out (p := ⟨w.heap.size + 1 + 1, 2, none⟩) (by show w.heap.size + 1 + 1 < w.heap.size + 3; omega) (.slice B2 m.length d2)) hb3)
  have Hho2_3 := hid (GW.below (GW.setq Hho2_2.out (p := ⟨w.heap.size + 1 + 1, 2, none⟩) (by show w.heap.size + 1 + 1 < w.heap.size + 3; omega) (.slice B2 m.length d2)) hb3)
  have z3 := hb3.size
  replace z3 := Nat.le_trans HZ2.out z3
  have hA3 := HA2.out.below hb3 (Nat.lt_of_lt_of_le (by omega) HZ2.out)
  have hX3 := HX2.out.below hb3 (Nat.lt_of_lt_of_le (by omega) HZ2.out)
  have hY3 := HY2.out.below hb3 (Nat.lt_of_lt_of_le (by omega) HZ2.out)
  have hB3 := HB2.out.trans (hb3.mono HB2.out.size)
  have hXs3 := (hX3).far (p := ⟨w.heap.size + 1 + 1, 3, none⟩) (by show _ ≠ w.heap.size + 1 + 1; omega) (.slice B3 y.length d3)
  have hAs3 := (hA3).far (p := ⟨w.heap.size + 1 + 1, 3, none⟩) (by show _ ≠ w.heap.size + 1 + 1; omega) (.slice B3 y.length d3)
  have hYs3 := (hY3).set_ 3 (.slice B3 y.length d3)
  replace hYs3 : Bx (w3.setCell ⟨w.heap.size + 1 + 1, 3, none⟩ (.slice B3 y.length d3)) (w.heap.size + 1 + 1) 40 #[.int .i64 k, .slice B1 p.length d1, .slice B2 m.length d2, .slice B3 y.length d3, .slice none 0 0, .slice none 0 0] := hYs3
  have hBs3 : Below w.heap.size w (w3.setCell ⟨w.heap.size + 1 + 1, 3, none⟩ (.slice B3 y.length d3)) := (hB3).setCell (p := ⟨w.heap.size + 1 + 1, 3, none⟩) (by show w.heap.size ≤ w.heap.size + 1 + 1; omega) (.slice B3 y.length d3)
  have zs3 : w.heap.size + 3 ≤ (w3.setCell ⟨w.heap.size + 1 + 1, 3, none⟩ (.slice B3 y.length d3)).heap.size := by simpa using z3
  obtain ⟨⟨y0, y1, y2, y3, y4, y5⟩, ⟨f0, f1, f2, f3, f4, f5⟩⟩ := zc hY3
  obtain ⟨⟨a0, a1, a2, a3, a4, a5⟩, -⟩ := zc hAs3
  have l3 : w.heap.size + 1 + 1 < w3.heap.size := by omega
  have k3 : w.heap.size + 1 < w3.heap.size := by omega
  have HX3 := hid hXs3
  have HA3 := hid hAs3
  have HY3 := hid hYs3
  have HB3 := hid hBs3
  have HZ3 := hid zs3
  clear ho3 hb3 hX3 hY3 hA3 hXs3 hYs3 hAs3 hB3 hBs3 zs3 z3
  go_wp2_with fail
  refine (HC4.out _ HB3.out).mono ?_
  clear y0 y1 y2 y3 y4 y5 f0 f1 f2 f3 f4 f5 a0 a1 a2 a3 a4 a5 l3 k3
  rintro e w4 ⟨⟨B4, d4, B5, d5, rfl, ho4, ho5⟩, hb4⟩
  replace ho4 := own_more ho4 HZ3.out
  have Hho4_4 := hid ho4
  replace ho5 := own_more ho5 HZ3.out
  have Hho5_4 := hid ho5
  have Hho1_4 := hid (own_below (own_put0 Hho1_3.out (p := ⟨w.heap.size + 1 + 1, 3, none⟩) (by show w.heap.size + 1 + 1 < w.heap.size + 3; omega) (.slice B3 y.length d3)) hb4)
  have Hho2_4 := hid (GW.below (GW.setq Hho2_3.out (p := ⟨w.heap.size + 1 + 1, 3, none⟩) (by show w.heap.size + 1 + 1 < w.heap.size + 3; omega) (.slice B3 y.length d3)) hb4)
  have Hho3_4 := hid (own_below (own_put0 Hho3_3.out (p := ⟨w.heap.size + 1 + 1, 3, none⟩) (by show w.heap.size + 1 + 1 < w.heap.size + 3; omega) (.slice B3 y.length d3)) hb4)
  have z4 := hb4.size
  replace z4 := Nat.le_trans HZ3.out z4
  have hA4 := HA3.out.below hb4 (Nat.lt_of_lt_of_le (by omega) HZ3.out)
  have hX4 := HX3.out.below hb4 (Nat.lt_of_lt_of_le (by omega) HZ3.out)
  have hY4 := HY3.out.below hb4 (Nat.lt_of_lt_of_le (by omega) HZ3.out)
  have hB4 := HB3.out.trans (hb4.mono HB3.out.size)
  have hXs4 := ((hX4).far (p := ⟨w.heap.size + 1 + 1, 4, none⟩) (by show _ ≠ w.heap.size + 1 + 1; omega) (.slice B4 q1.length d4)).far (p := ⟨w.heap.size + 1 + 1, 5, none⟩) (by show _ ≠ w.heap.size + 1 + 1; omega) (.slice B5 q2.length d5)
  have hAs4 := ((hA4).far (p := ⟨w.heap.size + 1 + 1, 4, none⟩) (by show _ ≠ w.heap.size + 1 + 1; omega) (.slice B4 q1.length d4)).far (p := ⟨w.heap.size + 1 + 1, 5, none⟩) (by show _ ≠ w.heap.size + 1 + 1; omega) (.slice B5 q2.length d5)
  have hYs4 := ((hY4).set_ 4 (.slice B4 q1.length d4)).set_ 5 (.slice B5 q2.length d5)
  replace hYs4 : Bx ((w4.setCell ⟨w.heap.size + 1 + 1, 4, none⟩ (.slice B4 q1.length d4)).setCell ⟨w.heap.size + 1 + 1, 5, none⟩ (.slice B5 q2.length d5)) (w.heap.size + 1 + 1) 40 #[.int .i64 k, .slice B1 p.length d1, .slice B2 m.length d2, .slice B3 y.length d3, .slice B4 q1.length d4, .slice B5 q2.length d5] := hYs4
  have hBs4 : Below w.heap.size w ((w4.setCell ⟨w.heap.size + 1 + 1, 4, none⟩ (.slice B4 q1.length d4)).setCell ⟨w.heap.size + 1 + 1, 5, none⟩ (.slice B5 q2.length d5)) := ((hB4).setCell (p := ⟨w.heap.size + 1 + 1, 4, none⟩) (by show w.heap.size ≤ w.heap.size + 1 + 1; omega) (.slice B4 q1.length d4)).setCell (p := ⟨w.heap.size + 1 + 1, 5, none⟩) (by show w.heap.size ≤ w.heap.size + 1 + 1; omega) (.slice B5 q2.length d5)
  have zs4 : w.heap.size + 3 ≤ ((w4.setCell ⟨w.heap.size + 1 + 1, 4, none⟩ (.slice B4 q1.length d4)).setCell ⟨w.heap.size + 1 + 1, 5, none⟩ (.slice B5 q2.length d5)).heap.size := by simpa using z4
  obtain ⟨⟨y0, y1, y2, y3, y4, y5⟩, ⟨f0, f1, f2, f3, f4, f5⟩⟩ := zc hY4
  obtain ⟨⟨a0, a1, a2, a3, a4, a5⟩, -⟩ := zc hAs4
  obtain ⟨⟨p0, p1, p2, p3, p4, p5⟩, ⟨g0, g1, g2, g3, g4, g5⟩⟩ := zc hXs4
  obtain ⟨⟨r0, r1, r2, r3, r4, r5⟩, -⟩ := zc hYs4
  have l4 : w.heap.size + 1 + 1 < w4.heap.size := by omega
  have k4 : w.heap.size + 1 < w4.heap.size := by omega
  have HX4 := hid hXs4
  have HA4 := hid hAs4
  have HY4 := hid hYs4
  have HB4 := hid hBs4
  have HZ4 := hid zs4
  clear ho4 ho5 hb4 hX4 hY4 hA4 hXs4 hYs4 hAs4 hB4 hBs4 zs4 z4
  go_wp2
  refine bodyPost_ret (v := .agg #[.int .i64 k, .slice B1 p.length d1, .slice B2 m.length d2, .slice B3 y.length d3, .slice B4 q1.length d4, .slice B5 q2.length d5]) ?_ rfl ?_
  · simp (maxDischargeDepth := 8) [results, Try.results15, go_sem, *]
  clear y0 y1 y2 y3 y4 y5 f0 f1 f2 f3 f4 f5 a0 a1 a2 a3 a4 a5 p0 p1 p2 p3 p4 p5 g0 g1 g2 g3 g4 g5 r0 r1 r2 r3 r4 r5
  have zz := HZ4.out
  refine ⟨⟨⟨B1, d1, B2, d2, B3, d3, B4, d4, B5, d5⟩, rfl, ?_, ?_, ?_, ?_, ?_⟩, (by repeat' (first | (with_reducible exact HB4.out) | (with_reducible refine Below.setCell ?_ ?_ _) | (dsimp only; omega)))⟩
  · refine Rd.of_own (base := w.heap.size + 3) (e := 2) (c := d1) ?_
    repeat' (first | (with_reducible exact Hho1_4.out) | (with_reducible refine own_put0 ?_ ?_ _) | (with_reducible refine GW.setq ?_ ?_ _) | (dsimp only; omega))
  · refine GW.read (base := w.heap.size + 3) (c := d2) ?_ rfl
    repeat' (first | (with_reducible exact Hho2_4.out) | (with_reducible refine own_put0 ?_ ?_ _) | (with_reducible refine GW.setq ?_ ?_ _) | (dsimp only; omega))
  · refine Rd.of_own (base := w.heap.size + 3) (e := 162) (c := d3) ?_
    repeat' (first | (with_reducible exact Hho3_4.out) | (with_reducible refine own_put0 ?_ ?_ _) | (with_reducible refine GW.setq ?_ ?_ _) | (dsimp only; omega))
  · refine Rd.of_own (base := w.heap.size + 3) (e := 140) (c := d4) ?_
    repeat' (first | (with_reducible exact Hho4_4.out) | (with_reducible refine own_put0 ?_ ?_ _) | (with_reducible refine GW.setq ?_ ?_ _) | (dsimp only; omega))
  · refine Rd.of_own (base := w.heap.size + 3) (e := 140) (c := d5) ?_
    repeat' (first | (with_reducible exact Hho5_4.out) | (with_reducible refine own_put0 ?_ ?_ _) | (with_reducible refine GW.setq ?_ ?_ _) | (dsimp only; omega))
end Go.Proofs.Ytkglkpohbckpcaa
