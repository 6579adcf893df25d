/- The text: Nj. -/
import Derived.Test.YtgphkfnobmponaaGreatNi
/- Contract of the reference's reader of notations: l07Read. -/
namespace Go.Proofs.YtgphkfnobmponaaGreat
open Go.RowKit
set_option linter.unusedVariables false

set_option maxRecDepth 100000 in
set_option maxHeartbeats 2000000 in
theorem l07Read_1 (s : ByteArray) (w : World) (hs : s.size ≤ 1099511627775) (hk : kinR (tl s) = 1) :
    Calls Tryz.prog 43 #[.string s] w fun e w' => NtRes w.heap.size (partN (tl s), noteR (tl s) && decide (s.size ≤ 200)) e w' ∧ Below w.heap.size w w' := by
  have hK := hid (fun w1 => show Calls Tryz.prog 16 #[.string s] w1 fun e w' => e = .returned (.int .i64 1) ∧ w1 = w' from by have := specKindOfText_any s w1 (by omega); rw [hk] at this; exact this)
  have hC := specReadPattern_any s ((w.alloc (Obj.cells (zN 0) 33)).alloc (Obj.cells (zN 1) 33)) (by omega)
  have hX2 := (Bx.new w 33 (zN 0)).alloc (Obj.cells (zN 1) 33)
  have hX4 := Bx.new (w.alloc (Obj.cells (zN 0) 33)) 33 (zN 1)
  have hz : (w.alloc (Obj.cells (zN 0) 33)).heap.size = w.heap.size + 1 := by simp
  have hz2 : ((w.alloc (Obj.cells (zN 0) 33)).alloc (Obj.cells (zN 1) 33)).heap.size = w.heap.size + 2 := by simp
  rw [hz] at hX4
  have hr : (rReadPattern s).2 = noteR (tl s) := by rw [noteR_1 hk]; unfold rReadPattern; show _ = okP (rdDig s.data.toList); cases okP (rdDig s.data.toList) <;> rfl
  have hp : ((1, (rReadPattern s).1, [], [], ([], [])) : Note) = partN (tl s) := by rw [partN_1 hk]; unfold rReadPattern rPl; show _ = ((1, (if okP (rdDig s.data.toList) then rdDig s.data.toList else []), [], [], ([], [])) : Note); cases okP (rdDig s.data.toList) <;> rfl
  rw [← hr, ← hp]
  generalize rReadPattern s = rr at *
  obtain ⟨p, ok⟩ := rr
  unfold zN at hC hX2 hX4 hz hz2
  try simp only at hC
  have hC := hid hC
  have HZ2 := hid hz2
  have hszp : (0 : Int) ≤ (s.size : Int) := by omega
  obtain ⟨bq, hb2⟩ : ∃ b, decide (s.size ≤ 200) = b := ⟨_, rfl⟩
  rw [hb2]
  have HB2 := hid hb2
  clear hz hz2 hr hp hk hb2
  go_enter Tryz.func43, Tryz.ntmps43
  go_wp2_with fail
  refine (hK.out _).mono ?_
  rintro e w1 ⟨rfl, rfl⟩
  go_wp2_with fail
  refine hC.out.mono ?_
  rintro e w1 ⟨v, rfl, ho, hb1⟩
  have hX2 := hX2.below hb1 hX2.lt
  have hX4 := hX4.below hb1 hX4.lt
  have z1 := hb1.size
  rw [HZ2.out] at z1 ho
  have hB1 : Below w.heap.size w w1 := (by repeat' (first | exact Below.refl _ _ | (with_reducible first | assumption | exact Nat.le_refl _ | refine Below.alloc ?_ ?_ _ | refine Below.setCell ?_ ?_ _ | refine Below.drew ?_ | refine below_drewN ?_ _) | refine Below.trans ?_ (Below.mono (by assumption) ?_) | exact Below.size (by assumption) | omega | go_size | (simp at *; omega)))
  have hg1 : w.heap.size < w1.heap.size := by omega
  have hg2 : w.heap.size + 1 < w1.heap.size := by omega
  obtain ⟨⟨a0, a1, a2, a3, a4, a5⟩, ⟨b0, b1, b2, b3, b4, b5⟩⟩ := zc hX2
  obtain ⟨⟨c0, c1, c2, c3, c4, c5⟩, ⟨d0, d1, d2, d3, d4, d5⟩⟩ := zc hX4
  obtain ⟨A, c, rfl⟩ := own_form ho
  have HO := hid ho
  clear hX2 hX4 hb1 hC hK ho
  cases ok
  · go_wp2
    refine bodyPost_ret (v := .tuple #[.agg #[.int .i64 1, .slice A p.length c, .slice none 0 0, .slice none 0 0, .slice none 0 0, .slice none 0 0], .bool false]) ?_ rfl ?_
    · simp (maxDischargeDepth := 8) [results, Tryz.results43, go_sem, *]
    refine ⟨?_, (by repeat' (first | (with_reducible exact hB1) | (with_reducible refine Below.setCell ?_ ?_ _) | (with_reducible refine Below.alloc ?_ ?_ _) | exact Nat.le_refl _ | exact Nat.le_succ _ | omega))⟩
    refine NtRes.p (own_more ?_ (show w.heap.size ≤ w.heap.size + 2 by omega))
    repeat' (first | (with_reducible exact HO.out) | (with_reducible refine own_set ?_ ?_ _) | (with_reducible refine World.ownsRow.alloc ?_ _) | (dsimp only; omega))
  · cases bq
    · have hsI : ¬ (s.size : Int) ≤ 200 := by have := of_decide_eq_false HB2.out; omega
      go_wp2
      refine bodyPost_ret (v := .tuple #[.agg #[.int .i64 1, .slice A p.length c, .slice none 0 0, .slice none 0 0, .slice none 0 0, .slice none 0 0], .bool false]) ?_ rfl ?_
      · simp (maxDischargeDepth := 8) [results, Tryz.results43, go_sem, *]
      refine ⟨?_, (by repeat' (first | (with_reducible exact hB1) | (with_reducible refine Below.setCell ?_ ?_ _) | (with_reducible refine Below.alloc ?_ ?_ _) | exact Nat.le_refl _ | exact Nat.le_succ _ | omega))⟩
      refine NtRes.p (own_more ?_ (show w.heap.size ≤ w.heap.size + 2 by omega))
      repeat' (first | (with_reducible exact HO.out) | (with_reducible refine own_set ?_ ?_ _) | (with_reducible refine World.ownsRow.alloc ?_ _) | (dsimp only; omega))
    · have hsI : (s.size : Int) ≤ 200 := by have := of_decide_eq_true HB2.out; omega
      go_wp2
      refine bodyPost_ret (v := .tuple #[.agg #[.int .i64 1, .slice A p.length c, .slice none 0 0, .slice none 0 0, .slice none 0 0, .slice none 0 0], .bool true]) ?_ rfl ?_
      · simp (maxDischargeDepth := 8) [results, Tryz.results43, go_sem, *]
      refine ⟨?_, (by repeat' (first | (with_reducible exact hB1) | (with_reducible refine Below.setCell ?_ ?_ _) | (with_reducible refine Below.alloc ?_ ?_ _) | exact Nat.le_refl _ | exact Nat.le_succ _ | omega))⟩
      refine NtRes.p (own_more ?_ (show w.heap.size ≤ w.heap.size + 2 by omega))
      repeat' (first | (with_reducible exact HO.out) | (with_reducible refine own_set ?_ ?_ _) | (with_reducible refine World.ownsRow.alloc ?_ _) | (dsimp only; omega))
set_option maxRecDepth 100000 in
set_option maxHeartbeats 2000000 in
theorem l07Read_2 (s : ByteArray) (w : World) (hs : s.size ≤ 1099511627775) (hk : kinR (tl s) = 2) :
    Calls Tryz.prog 43 #[.string s] w fun e w' => NtRes w.heap.size (partN (tl s), noteR (tl s) && decide (s.size ≤ 200)) e w' ∧ Below w.heap.size w w' := by
  have hK := hid (fun w1 => show Calls Tryz.prog 16 #[.string s] w1 fun e w' => e = .returned (.int .i64 2) ∧ w1 = w' from by have := specKindOfText_any s w1 (by omega); rw [hk] at this; exact this)
  have hC := specReadMulti_any s ((w.alloc (Obj.cells (zN 0) 33)).alloc (Obj.cells (zN 2) 33)) (by omega)
  have hX2 := (Bx.new w 33 (zN 0)).alloc (Obj.cells (zN 2) 33)
  have hX4 := Bx.new (w.alloc (Obj.cells (zN 0) 33)) 33 (zN 2)
  have hz : (w.alloc (Obj.cells (zN 0) 33)).heap.size = w.heap.size + 1 := by simp
  have hz2 : ((w.alloc (Obj.cells (zN 0) 33)).alloc (Obj.cells (zN 2) 33)).heap.size = w.heap.size + 2 := by simp
  rw [hz] at hX4
  have hr : (rReadMulti (tl s)).2 = noteR (tl s) := (noteR_2 hk).symm
  have hp : ((2, [], (rReadMulti (tl s)).1, [], ([], [])) : Note) = partN (tl s) := (partN_2 hk).symm
  rw [← hr, ← hp]
  generalize rReadMulti (tl s) = rr at *
  obtain ⟨p, ok⟩ := rr
  unfold zN at hC hX2 hX4 hz hz2
  try simp only at hC
  have hC := hid hC
  have HZ2 := hid hz2
  have hszp : (0 : Int) ≤ (s.size : Int) := by omega
  obtain ⟨bq, hb2⟩ : ∃ b, decide (s.size ≤ 200) = b := ⟨_, rfl⟩
  rw [hb2]
  have HB2 := hid hb2
  clear hz hz2 hr hp hk hb2
  go_enter Tryz.func43, Tryz.ntmps43
  go_wp2_with fail
  refine (hK.out _).mono ?_
  rintro e w1 ⟨rfl, rfl⟩
  go_wp2_with fail
  refine hC.out.mono ?_
  rintro e w1 ⟨⟨A, c, rfl, ho⟩, hb1⟩
  have hX2 := hX2.below hb1 hX2.lt
  have hX4 := hX4.below hb1 hX4.lt
  have z1 := hb1.size
  rw [HZ2.out] at z1 ho
  have hB1 : Below w.heap.size w w1 := (by repeat' (first | exact Below.refl _ _ | (with_reducible first | assumption | exact Nat.le_refl _ | refine Below.alloc ?_ ?_ _ | refine Below.setCell ?_ ?_ _ | refine Below.drew ?_ | refine below_drewN ?_ _) | refine Below.trans ?_ (Below.mono (by assumption) ?_) | exact Below.size (by assumption) | omega | go_size | (simp at *; omega)))
  have hg1 : w.heap.size < w1.heap.size := by omega
  have hg2 : w.heap.size + 1 < w1.heap.size := by omega
  have HX2 := hid (fun (W : World) (b : Below w1.heap.size w1 W) => zc (hX2.below b (by omega)))
  have HX4 := hid (fun (W : World) (b : Below w1.heap.size w1 W) => zc (hX4.below b (by omega)))
  have HO := hid ho
  clear hX2 hX4 hb1 hC hK ho
  cases ok
  · go_wp2_with (refine wl_name (w1 := w1) (O := (Obj.cells #[.slice A p.length c] 27)) ?_; intro W hW; have hbW : Below w1.heap.size w1 W := (by rw [← hW]; exact Below.alloc (Below.refl _ _) (Nat.le_refl _) _); have hXn : Bx W w1.heap.size 27 #[.slice A p.length c] := (by rw [← hW]; exact Bx.new _ _ _); obtain ⟨⟨a0, a1, a2, a3, a4, a5⟩, ⟨b0, b1, b2, b3, b4, b5⟩⟩ := HX2.out W hbW; obtain ⟨⟨c0, c1, c2, c3, c4, c5⟩, ⟨d0, d1, d2, d3, d4, d5⟩⟩ := HX4.out W hbW; have q0 := hXn.cell 0; replace q0 : W.cell? ⟨w1.heap.size, 0, none⟩ = some (.slice A p.length c) := q0; have hBW : Below w.heap.size w W := hB1.trans (hbW.mono (by omega)); have HBW := hid hbW; clear hbW hXn hW)
    refine bodyPost_ret (v := .tuple #[.agg #[.int .i64 2, .slice none 0 0, .slice A p.length c, .slice none 0 0, .slice none 0 0, .slice none 0 0], .bool false]) ?_ rfl ?_
    · simp (maxDischargeDepth := 8) [results, Tryz.results43, go_sem, *]
    refine ⟨?_, (by repeat' (first | (with_reducible exact hBW) | (with_reducible refine Below.setCell ?_ ?_ _) | (with_reducible refine Below.alloc ?_ ?_ _) | exact Nat.le_refl _ | exact Nat.le_succ _ | omega))⟩
    refine NtRes.m (Grid.size (M := w1.heap.size) (Grid.more (base := w.heap.size + 2) ?_ (by omega)))
    repeat' (first | (with_reducible exact HO.out.below HBW.out) | (with_reducible refine Grid.setq ?_ ?_ _) | (dsimp only; omega))
  · cases bq
    · have hsI : ¬ (s.size : Int) ≤ 200 := by have := of_decide_eq_false HB2.out; omega
      go_wp2_with (refine wl_name (w1 := w1) (O := (Obj.cells #[.slice A p.length c] 27)) ?_; intro W hW; have hbW : Below w1.heap.size w1 W := (by rw [← hW]; exact Below.alloc (Below.refl _ _) (Nat.le_refl _) _); have hXn : Bx W w1.heap.size 27 #[.slice A p.length c] := (by rw [← hW]; exact Bx.new _ _ _); obtain ⟨⟨a0, a1, a2, a3, a4, a5⟩, ⟨b0, b1, b2, b3, b4, b5⟩⟩ := HX2.out W hbW; obtain ⟨⟨c0, c1, c2, c3, c4, c5⟩, ⟨d0, d1, d2, d3, d4, d5⟩⟩ := HX4.out W hbW; have q0 := hXn.cell 0; replace q0 : W.cell? ⟨w1.heap.size, 0, none⟩ = some (.slice A p.length c) := q0; have hBW : Below w.heap.size w W := hB1.trans (hbW.mono (by omega)); have HBW := hid hbW; clear hbW hXn hW)
      refine bodyPost_ret (v := .tuple #[.agg #[.int .i64 2, .slice none 0 0, .slice A p.length c, .slice none 0 0, .slice none 0 0, .slice none 0 0], .bool false]) ?_ rfl ?_
      · simp (maxDischargeDepth := 8) [results, Tryz.results43, go_sem, *]
      refine ⟨?_, (by repeat' (first | (with_reducible exact hBW) | (with_reducible refine Below.setCell ?_ ?_ _) | (with_reducible refine Below.alloc ?_ ?_ _) | exact Nat.le_refl _ | exact Nat.le_succ _ | omega))⟩
      refine NtRes.m (Grid.size (M := w1.heap.size) (Grid.more (base := w.heap.size + 2) ?_ (by omega)))
      repeat' (first | (with_reducible exact HO.out.below HBW.out) | (with_reducible refine Grid.setq ?_ ?_ _) | (dsimp only; omega))
    · have hsI : (s.size : Int) ≤ 200 := by have := of_decide_eq_true HB2.out; omega
      go_wp2_with (refine wl_name (w1 := w1) (O := (Obj.cells #[.slice A p.length c] 27)) ?_; intro W hW; have hbW : Below w1.heap.size w1 W := (by rw [← hW]; exact Below.alloc (Below.refl _ _) (Nat.le_refl _) _); have hXn : Bx W w1.heap.size 27 #[.slice A p.length c] := (by rw [← hW]; exact Bx.new _ _ _); obtain ⟨⟨a0, a1, a2, a3, a4, a5⟩, ⟨b0, b1, b2, b3, b4, b5⟩⟩ := HX2.out W hbW; obtain ⟨⟨c0, c1, c2, c3, c4, c5⟩, ⟨d0, d1, d2, d3, d4, d5⟩⟩ := HX4.out W hbW; have q0 := hXn.cell 0; replace q0 : W.cell? ⟨w1.heap.size, 0, none⟩ = some (.slice A p.length c) := q0; have hBW : Below w.heap.size w W := hB1.trans (hbW.mono (by omega)); have HBW := hid hbW; clear hbW hXn hW)
      refine bodyPost_ret (v := .tuple #[.agg #[.int .i64 2, .slice none 0 0, .slice A p.length c, .slice none 0 0, .slice none 0 0, .slice none 0 0], .bool true]) ?_ rfl ?_
      · simp (maxDischargeDepth := 8) [results, Tryz.results43, go_sem, *]
      refine ⟨?_, (by repeat' (first | (with_reducible exact hBW) | (with_reducible refine Below.setCell ?_ ?_ _) | (with_reducible refine Below.alloc ?_ ?_ _) | exact Nat.le_refl _ | exact Nat.le_succ _ | omega))⟩
      refine NtRes.m (Grid.size (M := w1.heap.size) (Grid.more (base := w.heap.size + 2) ?_ (by omega)))
      repeat' (first | (with_reducible exact HO.out.below HBW.out) | (with_reducible refine Grid.setq ?_ ?_ _) | (dsimp only; omega))
set_option maxRecDepth 100000 in
set_option maxHeartbeats 2000000 in
theorem l07Read_3 (s : ByteArray) (w : World) (hs : s.size ≤ 1099511627775) (hk : kinR (tl s) = 3) :
    Calls Tryz.prog 43 #[.string s] w fun e w' => NtRes w.heap.size (partN (tl s), noteR (tl s) && decide (s.size ≤ 200)) e w' ∧ Below w.heap.size w w' := by
  have hK := hid (fun w1 => show Calls Tryz.prog 16 #[.string s] w1 fun e w' => e = .returned (.int .i64 3) ∧ w1 = w' from by have := specKindOfText_any s w1 (by omega); rw [hk] at this; exact this)
  have hC := specReadSync_any s ((w.alloc (Obj.cells (zN 0) 33)).alloc (Obj.cells (zN 3) 33)) (by omega)
  have hX2 := (Bx.new w 33 (zN 0)).alloc (Obj.cells (zN 3) 33)
  have hX4 := Bx.new (w.alloc (Obj.cells (zN 0) 33)) 33 (zN 3)
  have hz : (w.alloc (Obj.cells (zN 0) 33)).heap.size = w.heap.size + 1 := by simp
  have hz2 : ((w.alloc (Obj.cells (zN 0) 33)).alloc (Obj.cells (zN 3) 33)).heap.size = w.heap.size + 2 := by simp
  rw [hz] at hX4
  have hr : (rReadSync (tl s)).2 = noteR (tl s) := (noteR_3 hk).symm
  have hp : ((3, [], [], (rReadSync (tl s)).1, ([], [])) : Note) = partN (tl s) := (partN_3 hk).symm
  rw [← hr, ← hp]
  generalize rReadSync (tl s) = rr at *
  obtain ⟨p, ok⟩ := rr
  unfold zN at hC hX2 hX4 hz hz2
  try simp only at hC
  have hC := hid hC
  have HZ2 := hid hz2
  have hszp : (0 : Int) ≤ (s.size : Int) := by omega
  obtain ⟨bq, hb2⟩ : ∃ b, decide (s.size ≤ 200) = b := ⟨_, rfl⟩
  rw [hb2]
  have HB2 := hid hb2
  clear hz hz2 hr hp hk hb2
  go_enter Tryz.func43, Tryz.ntmps43
  go_wp2_with fail
  refine (hK.out _).mono ?_
  rintro e w1 ⟨rfl, rfl⟩
  go_wp2_with fail
  refine hC.out.mono ?_
  rintro e w1 ⟨⟨A, c, hA, rfl, ho⟩, hb1⟩
  have hX2 := hX2.below hb1 hX2.lt
  have hX4 := hX4.below hb1 hX4.lt
  have z1 := hb1.size
  rw [HZ2.out] at z1 ho
  have hB1 : Below w.heap.size w w1 := (by repeat' (first | exact Below.refl _ _ | (with_reducible first | assumption | exact Nat.le_refl _ | refine Below.alloc ?_ ?_ _ | refine Below.setCell ?_ ?_ _ | refine Below.drew ?_ | refine below_drewN ?_ _) | refine Below.trans ?_ (Below.mono (by assumption) ?_) | exact Below.size (by assumption) | omega | go_size | (simp at *; omega)))
  have hg1 : w.heap.size < w1.heap.size := by omega
  have hg2 : w.heap.size + 1 < w1.heap.size := by omega
  obtain ⟨⟨a0, a1, a2, a3, a4, a5⟩, ⟨b0, b1, b2, b3, b4, b5⟩⟩ := zc hX2
  obtain ⟨⟨c0, c1, c2, c3, c4, c5⟩, ⟨d0, d1, d2, d3, d4, d5⟩⟩ := zc hX4
  have HO := hid ho
  clear hX2 hX4 hb1 hC hK ho hA
  cases ok
  · go_wp2
    refine bodyPost_ret (v := .tuple #[.agg #[.int .i64 3, .slice none 0 0, .slice none 0 0, .slice A p.length c, .slice none 0 0, .slice none 0 0], .bool false]) ?_ rfl ?_
    · simp (maxDischargeDepth := 8) [results, Tryz.results43, go_sem, *]
    refine ⟨?_, (by repeat' (first | (with_reducible exact hB1) | (with_reducible refine Below.setCell ?_ ?_ _) | (with_reducible refine Below.alloc ?_ ?_ _) | exact Nat.le_refl _ | exact Nat.le_succ _ | omega))⟩
    refine NtRes.s (own_more ?_ (show w.heap.size ≤ w.heap.size + 2 by omega))
    repeat' (first | (with_reducible exact HO.out) | (with_reducible refine own_set ?_ ?_ _) | (with_reducible refine World.ownsRow.alloc ?_ _) | (dsimp only; omega))
  · cases bq
    · have hsI : ¬ (s.size : Int) ≤ 200 := by have := of_decide_eq_false HB2.out; omega
      go_wp2
      refine bodyPost_ret (v := .tuple #[.agg #[.int .i64 3, .slice none 0 0, .slice none 0 0, .slice A p.length c, .slice none 0 0, .slice none 0 0], .bool false]) ?_ rfl ?_
      · simp (maxDischargeDepth := 8) [results, Tryz.results43, go_sem, *]
      refine ⟨?_, (by repeat' (first | (with_reducible exact hB1) | (with_reducible refine Below.setCell ?_ ?_ _) | (with_reducible refine Below.alloc ?_ ?_ _) | exact Nat.le_refl _ | exact Nat.le_succ _ | omega))⟩
      refine NtRes.s (own_more ?_ (show w.heap.size ≤ w.heap.size + 2 by omega))
      repeat' (first | (with_reducible exact HO.out) | (with_reducible refine own_set ?_ ?_ _) | (with_reducible refine World.ownsRow.alloc ?_ _) | (dsimp only; omega))
    · have hsI : (s.size : Int) ≤ 200 := by have := of_decide_eq_true HB2.out; omega
      go_wp2
      refine bodyPost_ret (v := .tuple #[.agg #[.int .i64 3, .slice none 0 0, .slice none 0 0, .slice A p.length c, .slice none 0 0, .slice none 0 0], .bool true]) ?_ rfl ?_
      · simp (maxDischargeDepth := 8) [results, Tryz.results43, go_sem, *]
      refine ⟨?_, (by repeat' (first | (with_reducible exact hB1) | (with_reducible refine Below.setCell ?_ ?_ _) | (with_reducible refine Below.alloc ?_ ?_ _) | exact Nat.le_refl _ | exact Nat.le_succ _ | omega))⟩
      refine NtRes.s (own_more ?_ (show w.heap.size ≤ w.heap.size + 2 by omega))
      repeat' (first | (with_reducible exact HO.out) | (with_reducible refine own_set ?_ ?_ _) | (with_reducible refine World.ownsRow.alloc ?_ _) | (dsimp only; omega))
set_option maxRecDepth 100000 in
set_option maxHeartbeats 2000000 in
theorem l07Read_4 (s : ByteArray) (w : World) (hs : s.size ≤ 1099511627775) (hk : kinR (tl s) = 4) :
    Calls Tryz.prog 43 #[.string s] w fun e w' => NtRes w.heap.size (partN (tl s), noteR (tl s) && decide (s.size ≤ 200)) e w' ∧ Below w.heap.size w w' := by
  have hK := hid (fun w1 => show Calls Tryz.prog 16 #[.string s] w1 fun e w' => e = .returned (.int .i64 4) ∧ w1 = w' from by have := specKindOfText_any s w1 (by omega); rw [hk] at this; exact this)
  have hC := specReadPassing_any s ((w.alloc (Obj.cells (zN 0) 33)).alloc (Obj.cells (zN 4) 33)) (by omega)
  have hX2 := (Bx.new w 33 (zN 0)).alloc (Obj.cells (zN 4) 33)
  have hX4 := Bx.new (w.alloc (Obj.cells (zN 0) 33)) 33 (zN 4)
  have hz : (w.alloc (Obj.cells (zN 0) 33)).heap.size = w.heap.size + 1 := by simp
  have hz2 : ((w.alloc (Obj.cells (zN 0) 33)).alloc (Obj.cells (zN 4) 33)).heap.size = w.heap.size + 2 := by simp
  rw [hz] at hX4
  have hr : (rReadPassing (tl s)).2 = noteR (tl s) := (noteR_4 hk).symm
  have hp : ((4, [], [], [], (rReadPassing (tl s)).1) : Note) = partN (tl s) := (partN_4 hk).symm
  rw [← hr, ← hp]
  generalize rReadPassing (tl s) = rr at *
  obtain ⟨p, ok⟩ := rr
  unfold zN at hC hX2 hX4 hz hz2
  try simp only at hC
  have hC := hid hC
  have HZ2 := hid hz2
  have hszp : (0 : Int) ≤ (s.size : Int) := by omega
  obtain ⟨bq, hb2⟩ : ∃ b, decide (s.size ≤ 200) = b := ⟨_, rfl⟩
  rw [hb2]
  have HB2 := hid hb2
  clear hz hz2 hr hp hk hb2
  go_enter Tryz.func43, Tryz.ntmps43
  go_wp2_with fail
  refine (hK.out _).mono ?_
  rintro e w1 ⟨rfl, rfl⟩
  go_wp2_with fail
  refine hC.out.mono ?_
  rintro e w1 ⟨⟨A, c, A', c', hA, hA', rfl, ho, ho'⟩, hb1⟩
  have hX2 := hX2.below hb1 hX2.lt
  have hX4 := hX4.below hb1 hX4.lt
  have z1 := hb1.size
  rw [HZ2.out] at z1 ho ho'
  have hB1 : Below w.heap.size w w1 := (by repeat' (first | exact Below.refl _ _ | (with_reducible first | assumption | exact Nat.le_refl _ | refine Below.alloc ?_ ?_ _ | refine Below.setCell ?_ ?_ _ | refine Below.drew ?_ | refine below_drewN ?_ _) | refine Below.trans ?_ (Below.mono (by assumption) ?_) | exact Below.size (by assumption) | omega | go_size | (simp at *; omega)))
  have hg1 : w.heap.size < w1.heap.size := by omega
  have hg2 : w.heap.size + 1 < w1.heap.size := by omega
  have HX2 := hid (fun (W : World) (b : Below w1.heap.size w1 W) => zc (hX2.below b (by omega)))
  have HX4 := hid (fun (W : World) (b : Below w1.heap.size w1 W) => zc (hX4.below b (by omega)))
  have HO := hid ho
  have HO' := hid ho'
  have HRS := hid hA'.2
  clear hX2 hX4 hb1 hC hK ho hA ho' hA'
  cases ok
  · go_wp2_with (refine wl_name (w1 := w1) (O := (Obj.cells #[.slice A p.1.length c, .slice A' p.2.length c'] 31)) ?_; intro W hW; have hbW : Below w1.heap.size w1 W := (by rw [← hW]; exact Below.alloc (Below.refl _ _) (Nat.le_refl _) _); have hXn : Bx W w1.heap.size 31 #[.slice A p.1.length c, .slice A' p.2.length c'] := (by rw [← hW]; exact Bx.new _ _ _); obtain ⟨⟨a0, a1, a2, a3, a4, a5⟩, ⟨b0, b1, b2, b3, b4, b5⟩⟩ := HX2.out W hbW; obtain ⟨⟨c0, c1, c2, c3, c4, c5⟩, ⟨d0, d1, d2, d3, d4, d5⟩⟩ := HX4.out W hbW; have q0 := hXn.cell 0; have q1 := hXn.cell 1; replace q0 : W.cell? ⟨w1.heap.size, 0, none⟩ = some (.slice A p.1.length c) := q0; replace q1 : W.cell? ⟨w1.heap.size, 1, none⟩ = some (.slice A' p.2.length c') := q1; have hBW : Below w.heap.size w W := hB1.trans (hbW.mono (by omega)); have HOW := hid (own_below HO.out hbW); have HOW' := hid (own_below HO'.out hbW); clear hbW hXn hW)
    refine bodyPost_ret (v := .tuple #[.agg #[.int .i64 4, .slice none 0 0, .slice none 0 0, .slice none 0 0, .slice A p.1.length c, .slice A' p.2.length c'], .bool false]) ?_ rfl ?_
    · simp (maxDischargeDepth := 8) [results, Tryz.results43, go_sem, *]
    refine ⟨?_, (by repeat' (first | (with_reducible exact hBW) | (with_reducible refine Below.setCell ?_ ?_ _) | (with_reducible refine Below.alloc ?_ ?_ _) | exact Nat.le_refl _ | exact Nat.le_succ _ | omega))⟩
    refine NtRes.q (own_more ?_ (show w.heap.size ≤ w.heap.size + 2 by omega)) (own_more ?_ (show w.heap.size ≤ w.heap.size + 2 by omega)) HRS.out
    all_goals
      repeat' (first | (with_reducible exact HOW.out) | (with_reducible exact HOW'.out) | (with_reducible refine own_set ?_ ?_ _) | (with_reducible refine World.ownsRow.alloc ?_ _) | (dsimp only; omega))
  · cases bq
    · have hsI : ¬ (s.size : Int) ≤ 200 := by have := of_decide_eq_false HB2.out; omega
      go_wp2_with (refine wl_name (w1 := w1) (O := (Obj.cells #[.slice A p.1.length c, .slice A' p.2.length c'] 31)) ?_; intro W hW; have hbW : Below w1.heap.size w1 W := (by rw [← hW]; exact Below.alloc (Below.refl _ _) (Nat.le_refl _) _); have hXn : Bx W w1.heap.size 31 #[.slice A p.1.length c, .slice A' p.2.length c'] := (by rw [← hW]; exact Bx.new _ _ _); obtain ⟨⟨a0, a1, a2, a3, a4, a5⟩, ⟨b0, b1, b2, b3, b4, b5⟩⟩ := HX2.out W hbW; obtain ⟨⟨c0, c1, c2, c3, c4, c5⟩, ⟨d0, d1, d2, d3, d4, d5⟩⟩ := HX4.out W hbW; have q0 := hXn.cell 0; have q1 := hXn.cell 1; replace q0 : W.cell? ⟨w1.heap.size, 0, none⟩ = some (.slice A p.1.length c) := q0; replace q1 : W.cell? ⟨w1.heap.size, 1, none⟩ = some (.slice A' p.2.length c') := q1; have hBW : Below w.heap.size w W := hB1.trans (hbW.mono (by omega)); have HOW := hid (own_below HO.out hbW); have HOW' := hid (own_below HO'.out hbW); clear hbW hXn hW)
      refine bodyPost_ret (v := .tuple #[.agg #[.int .i64 4, .slice none 0 0, .slice none 0 0, .slice none 0 0, .slice A p.1.length c, .slice A' p.2.length c'], .bool false]) ?_ rfl ?_
      · simp (maxDischargeDepth := 8) [results, Tryz.results43, go_sem, *]
      refine ⟨?_, (by repeat' (first | (with_reducible exact hBW) | (with_reducible refine Below.setCell ?_ ?_ _) | (with_reducible refine Below.alloc ?_ ?_ _) | exact Nat.le_refl _ | exact Nat.le_succ _ | omega))⟩
      refine NtRes.q (own_more ?_ (show w.heap.size ≤ w.heap.size + 2 by omega)) (own_more ?_ (show w.heap.size ≤ w.heap.size + 2 by omega)) HRS.out
      all_goals
        repeat' (first | (with_reducible exact HOW.out) | (with_reducible exact HOW'.out) | (with_reducible refine own_set ?_ ?_ _) | (with_reducible refine World.ownsRow.alloc ?_ _) | (dsimp only; omega))
    · have hsI : (s.size : Int) ≤ 200 := by have := of_decide_eq_true HB2.out; omega
      go_wp2_with (refine wl_name (w1 := w1) (O := (Obj.cells #[.slice A p.1.length c, .slice A' p.2.length c'] 31)) ?_; intro W hW; have hbW : Below w1.heap.size w1 W := (by rw [← hW]; exact Below.alloc (Below.refl _ _) (Nat.le_refl _) _); have hXn : Bx W w1.heap.size 31 #[.slice A p.1.length c, .slice A' p.2.length c'] := (by rw [← hW]; exact Bx.new _ _ _); obtain ⟨⟨a0, a1, a2, a3, a4, a5⟩, ⟨b0, b1, b2, b3, b4, b5⟩⟩ := HX2.out W hbW; obtain ⟨⟨c0, c1, c2, c3, c4, c5⟩, ⟨d0, d1, d2, d3, d4, d5⟩⟩ := HX4.out W hbW; have q0 := hXn.cell 0; have q1 := hXn.cell 1; replace q0 : W.cell? ⟨w1.heap.size, 0, none⟩ = some (.slice A p.1.length c) := q0; replace q1 : W.cell? ⟨w1.heap.size, 1, none⟩ = some (.slice A' p.2.length c') := q1; have hBW : Below w.heap.size w W := hB1.trans (hbW.mono (by omega)); have HOW := hid (own_below HO.out hbW); have HOW' := hid (own_below HO'.out hbW); clear hbW hXn hW)
      refine bodyPost_ret (v := .tuple #[.agg #[.int .i64 4, .slice none 0 0, .slice none 0 0, .slice none 0 0, .slice A p.1.length c, .slice A' p.2.length c'], .bool true]) ?_ rfl ?_
      · simp (maxDischargeDepth := 8) [results, Tryz.results43, go_sem, *]
      refine ⟨?_, (by repeat' (first | (with_reducible exact hBW) | (with_reducible refine Below.setCell ?_ ?_ _) | (with_reducible refine Below.alloc ?_ ?_ _) | exact Nat.le_refl _ | exact Nat.le_succ _ | omega))⟩
      refine NtRes.q (own_more ?_ (show w.heap.size ≤ w.heap.size + 2 by omega)) (own_more ?_ (show w.heap.size ≤ w.heap.size + 2 by omega)) HRS.out
      all_goals
        repeat' (first | (with_reducible exact HOW.out) | (with_reducible exact HOW'.out) | (with_reducible refine own_set ?_ ?_ _) | (with_reducible refine World.ownsRow.alloc ?_ _) | (dsimp only; omega))
theorem l07Read_any (s : ByteArray) (w : World) (hs : s.size ≤ 1099511627775) :
    Calls Tryz.prog 43 #[.string s] w fun e w' => NtRes w.heap.size (partN (tl s), noteR (tl s) && decide (s.size ≤ 200)) e w' ∧ Below w.heap.size w w' := by
  rcases kinR_cases (tl s) with hk | hk | hk | hk
  · exact l07Read_1 s w hs hk
  · exact l07Read_2 s w hs hk
  · exact l07Read_3 s w hs hk
  · exact l07Read_4 s w hs hk
end Go.Proofs.YtgphkfnobmponaaGreat
