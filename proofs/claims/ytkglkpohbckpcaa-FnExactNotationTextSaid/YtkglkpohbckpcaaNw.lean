/- Contracts of the laws' own helpers that copy arguments: throws, beats, passing patterns. -/
import Derived.Test.YtkglkpohbckpcaaNv
import Derived.Test.YtkglkpohbckpcaaYm
namespace Go.Proofs.Ytkglkpohbckpcaa
open Go.RowKit
set_option linter.unusedVariables false

theorem toSyncThrow_any (x : Int) (b : Bool) (w : World) :
    Calls Try.prog 216 #[.agg #[.int .i64 x, .bool b]] w fun e w' => e = .returned (.agg #[.int .i64 x, .bool b]) ∧ Below w.heap.size w w' := by
  go_enter Try.func216, Try.ntmps216
  go_wp2
  refine bodyPost_ret (v := .agg #[.int .i64 x, .bool b]) ?_ rfl ?_
  · simp (maxDischargeDepth := 8) [results, Try.results216, go_sem, *]
  exact ⟨rfl, (by repeat' (first | exact Below.refl _ _ | (with_reducible assumption) | (with_reducible refine Below.alloc ?_ ?_ _) | (with_reducible refine Below.setCell ?_ ?_ _) | (with_reducible refine Below.drew ?_) | (with_reducible refine below_drewN ?_ _) | (refine Below.trans ?_ (Below.mono (by assumption) ?_)) | (with_reducible exact Nat.le_refl _) | (with_reducible assumption) | (exact Below.size (by assumption)) | omega | go_size | (simp at *; omega)))⟩
theorem toPassThrow_any (x : Int) (b : Bool) (w : World) :
    Calls Try.prog 217 #[.agg #[.int .i64 x, .bool b]] w fun e w' => e = .returned (.agg #[.int .i64 x, .bool b]) ∧ Below w.heap.size w w' := by
  go_enter Try.func217, Try.ntmps217
  go_wp2
  refine bodyPost_ret (v := .agg #[.int .i64 x, .bool b]) ?_ rfl ?_
  · simp (maxDischargeDepth := 8) [results, Try.results217, go_sem, *]
  exact ⟨rfl, (by repeat' (first | exact Below.refl _ _ | (with_reducible assumption) | (with_reducible refine Below.alloc ?_ ?_ _) | (with_reducible refine Below.setCell ?_ ?_ _) | (with_reducible refine Below.drew ?_) | (with_reducible refine below_drewN ?_ _) | (refine Below.trans ?_ (Below.mono (by assumption) ?_)) | (with_reducible exact Nat.le_refl _) | (with_reducible assumption) | (exact Below.size (by assumption)) | omega | go_size | (simp at *; omega)))⟩
theorem zc4 {w : World} {g : Nat} {t : TypeId} {v0 v1 v2 v3 : Value} (h : Bx w g t #[v0, v1, v2, v3]) :
    (w.cell? ⟨g, 0, none⟩ = some v0 ∧ w.cell? ⟨g, 1, none⟩ = some v1 ∧ w.cell? ⟨g, 2, none⟩ = some v2 ∧ w.cell? ⟨g, 3, none⟩ = some v3) ∧
    (w.frozen? ⟨g, 0, none⟩ = false ∧ w.frozen? ⟨g, 1, none⟩ = false ∧ w.frozen? ⟨g, 2, none⟩ = false ∧ w.frozen? ⟨g, 3, none⟩ = false) :=
  ⟨⟨h.cell 0, h.cell 1, h.cell 2, h.cell 3⟩, ⟨h.frozen 0, h.frozen 1, h.frozen 2, h.frozen 3⟩⟩
theorem zc2 {w : World} {g : Nat} {t : TypeId} {v0 v1 : Value} (h : Bx w g t #[v0, v1]) :
    (w.cell? ⟨g, 0, none⟩ = some v0 ∧ w.cell? ⟨g, 1, none⟩ = some v1) ∧ (w.frozen? ⟨g, 0, none⟩ = false ∧ w.frozen? ⟨g, 1, none⟩ = false) :=
  ⟨⟨h.cell 0, h.cell 1⟩, ⟨h.frozen 0, h.frozen 1⟩⟩
set_option maxHeartbeats 1000000 in
theorem toSyncBeat_any (x : Int) (b : Bool) (y : Int) (d : Bool) (w : World) :
    Calls Try.prog 173 #[.agg #[.int .i64 x, .bool b, .int .i64 y, .bool d]] w fun e w' => e = .returned (.agg #[.int .i64 x, .bool b, .int .i64 y, .bool d]) ∧ Below w.heap.size w w' := by
  obtain ⟨W, hW⟩ : ∃ W, ((w.alloc (Obj.cells #[.int .i64 x, .bool b, .int .i64 y, .bool d] 166)).alloc (Obj.cells #[.int .i64 0, .bool false, .int .i64 0, .bool false] 162)).alloc (Obj.cells #[.int .i64 0, .bool false, .int .i64 0, .bool false] 162) = W := ⟨_, rfl⟩
  have hbW : Below w.heap.size w W := by rw [← hW]; exact (by repeat' (first | exact Below.refl _ _ | (with_reducible assumption) | (with_reducible refine Below.alloc ?_ ?_ _) | (with_reducible refine Below.setCell ?_ ?_ _) | (with_reducible refine Below.drew ?_) | (with_reducible refine below_drewN ?_ _) | (refine Below.trans ?_ (Below.mono (by assumption) ?_)) | (with_reducible exact Nat.le_refl _) | (with_reducible assumption) | (exact Below.size (by assumption)) | omega | go_size | (simp at *; omega)))
  have hZ : W.heap.size = w.heap.size + 3 := by rw [← hW]; simp
  have hA : Bx W w.heap.size 166 #[.int .i64 x, .bool b, .int .i64 y, .bool d] := by rw [← hW]; exact ((Bx.new _ _ _).alloc _).alloc _
  have hX : Bx W (w.heap.size + 1) 162 #[.int .i64 0, .bool false, .int .i64 0, .bool false] := by
    rw [← hW]
    have := Bx.new (w.alloc (Obj.cells #[.int .i64 x, .bool b, .int .i64 y, .bool d] 166)) 162 #[.int .i64 0, .bool false, .int .i64 0, .bool false]
    rw [show (w.alloc (Obj.cells #[.int .i64 x, .bool b, .int .i64 y, .bool d] 166)).heap.size = w.heap.size + 1 by simp] at this
    exact this.alloc _
  have hY : Bx W (w.heap.size + 1 + 1) 162 #[.int .i64 0, .bool false, .int .i64 0, .bool false] := by
    rw [← hW]
    have := Bx.new ((w.alloc (Obj.cells #[.int .i64 x, .bool b, .int .i64 y, .bool d] 166)).alloc (Obj.cells #[.int .i64 0, .bool false, .int .i64 0, .bool false] 162)) 162 #[.int .i64 0, .bool false, .int .i64 0, .bool false]
    rw [show ((w.alloc (Obj.cells #[.int .i64 x, .bool b, .int .i64 y, .bool d] 166)).alloc (Obj.cells #[.int .i64 0, .bool false, .int .i64 0, .bool false] 162)).heap.size = w.heap.size + 1 + 1 by simp] at this
    exact this
  have hC := hid (toSyncThrow_any x b)
  have hD := hid (toSyncThrow_any y d)
  have HBW := hid hbW
  have HA := hid hA
  have HX := hid hX
  have HY := hid hY
  have HZ := hid hZ
  have HW := hid hW
  clear hbW hX hY hZ hW hA
  go_enter Try.func173, Try.ntmps173
  go_wp2_with fail
  refine (hC.out _).mono ?_
  rw [HW.out]
  rintro e w1 ⟨rfl, hb1⟩
  have z1 := hb1.size
  rw [HZ.out] at z1
  have hA1 := HA.out.below hb1 (by rw [HZ.out]; omega)
  have hX1 := HX.out.below hb1 (by rw [HZ.out]; omega)
  have hY1 := HY.out.below hb1 (by rw [HZ.out]; omega)
  have hB1 := HBW.out.trans (hb1.mono HBW.out.size)
  have hX2 := (hX1.far (p := ⟨w.heap.size + 1 + 1, 0, none⟩) (by show _ ≠ w.heap.size + 1 + 1; omega) (.int .i64 x)).far (p := ⟨w.heap.size + 1 + 1, 1, none⟩) (by show _ ≠ w.heap.size + 1 + 1; omega) (.bool b)
  have hA2 := (hA1.far (p := ⟨w.heap.size + 1 + 1, 0, none⟩) (by show _ ≠ w.heap.size + 1 + 1; omega) (.int .i64 x)).far (p := ⟨w.heap.size + 1 + 1, 1, none⟩) (by show _ ≠ w.heap.size + 1 + 1; omega) (.bool b)
  have hY2 := (hY1.set_ 0 (.int .i64 x)).set_ 1 (.bool b)
  replace hY2 : Bx ((w1.setCell ⟨w.heap.size + 1 + 1, 0, none⟩ (.int .i64 x)).setCell ⟨w.heap.size + 1 + 1, 1, none⟩ (.bool b)) (w.heap.size + 1 + 1) 162 #[.int .i64 x, .bool b, .int .i64 0, .bool false] := hY2
  have hB2 : Below w.heap.size w ((w1.setCell ⟨w.heap.size + 1 + 1, 0, none⟩ (.int .i64 x)).setCell ⟨w.heap.size + 1 + 1, 1, none⟩ (.bool b)) := (by repeat' (first | exact Below.refl _ _ | (with_reducible assumption) | (with_reducible refine Below.alloc ?_ ?_ _) | (with_reducible refine Below.setCell ?_ ?_ _) | (with_reducible refine Below.drew ?_) | (with_reducible refine below_drewN ?_ _) | (refine Below.trans ?_ (Below.mono (by assumption) ?_)) | (with_reducible exact Nat.le_refl _) | (with_reducible assumption) | (exact Below.size (by assumption)) | omega | go_size | (simp at *; omega)))
  have z2 : w.heap.size + 3 ≤ ((w1.setCell ⟨w.heap.size + 1 + 1, 0, none⟩ (.int .i64 x)).setCell ⟨w.heap.size + 1 + 1, 1, none⟩ (.bool b)).heap.size := by simpa using z1
  obtain ⟨⟨y0, y1, y2, y3⟩, ⟨f0, f1, f2, f3⟩⟩ := zc4 hY1
  obtain ⟨⟨a0, a1, a2, a3⟩, -⟩ := zc4 hA2
  have l1 : w.heap.size + 1 + 1 < w1.heap.size := by omega
  have HX2 := hid hX2
  have HY2 := hid hY2
  have HB2 := hid hB2
  have HZ2 := hid z2
  clear hb1 hC HBW HX HY HA HZ HW hX1 hY1 hA1 hX2 hY2 hA2 hB1 hB2 z2
  go_wp2_with fail
  refine (hD.out _).mono ?_
  rintro e w3 ⟨rfl, hb3⟩
  have hX3 := HX2.out.below hb3 (Nat.lt_of_lt_of_le (by omega) HZ2.out)
  have hY3 := HY2.out.below hb3 (Nat.lt_of_lt_of_le (by omega) HZ2.out)
  have hB3 := HB2.out.trans (hb3.mono HB2.out.size)
  have z3 := Nat.le_trans HZ2.out hb3.size
  obtain ⟨⟨p0, p1, p2, p3⟩, ⟨q0, q1, q2, q3⟩⟩ := zc4 hX3
  obtain ⟨⟨r0, r1, r2, r3⟩, ⟨s0, s1, s2, s3⟩⟩ := zc4 hY3
  have l2 : w.heap.size + 1 + 1 < w3.heap.size := by omega
  have l3 : w.heap.size + 1 < w3.heap.size := by omega
  clear hb3 hD HX2 HY2 HB2 HZ2 hX3 hY3 y0 y1 y2 y3 f0 f1 f2 f3 a0 a1 a2 a3 l1 z1
  go_wp2
  refine bodyPost_ret (v := .agg #[.int .i64 x, .bool b, .int .i64 y, .bool d]) ?_ rfl ?_
  · simp (maxDischargeDepth := 8) [results, Try.results173, go_sem, *]
  exact ⟨rfl, by repeat' (first | (with_reducible exact hB3) | (with_reducible refine Below.setCell ?_ ?_ _) | (dsimp only; omega))⟩
set_option maxHeartbeats 1000000 in
theorem toSyncBeatS_any (A : Option Addr) (n c : Nat) (q : List Beat) (w : World) (hn : n ≤ 1099511627776) (h : Rd w w.heap.size 4 A n (bts q)) :
    Calls Try.prog 87 #[.slice A n c] w fun e w' => (∃ A' c', e = .returned (.slice A' n c') ∧ w'.ownsRow w.heap.size 162 4 (.slice A' n c') n (bts q)) ∧ Below w.heap.size w w' := by
  have HR := hid h
  have hlen := hid h.bt_len
  clear h
  go_enter Try.func87, Try.ntmps87
  go_wp2_with (at_make; refine make_us w.heap.size Try.underlying35 inf_bt rfl _ _ rfl .i64 .i64 n rfl rfl hn (by omega) (Nat.le_refl _) ?_; intro us w1 ho1 hb1)
  have HUL := hid ho1.1
  have hst : Hid (w1.ownsRow w.heap.size 162 4 (.slice (some ⟨w.heap.size, 0, none⟩) n n) n (bts (q.take 0) ++ us.drop (0 * 4))) := ho1
  clear ho1
  go_loopw [4] (fun i wr => Hid (∃ k : Nat, k ≤ n ∧ i = .int .i64 k ∧ wr.ownsRow w.heap.size 162 4 (.slice (some ⟨w.heap.size, 0, none⟩) n n) n (bts (q.take k) ++ us.drop (k * 4)) ∧ Below w.heap.size w wr)) (fun i _ => n - (intOf i).toNat)
  case atStart => exact hid ⟨0, Nat.zero_le _, rfl, hst.out, hb1⟩
  case round =>
    obtain ⟨k, hk, rfl, ho, hb0⟩ := hrel.out
    clear hrel hst hb1
    have hz := hb0.size
    by_cases hlt : k < n
    · obtain ⟨b, off, x, rfl, hb, hx, hd, c0, c1, c2, c3⟩ := (HR.out.below hb0 (Nat.le_refl _)).bt_at hlt
      obtain ⟨⟨x1, x2⟩, ⟨x3, x4⟩⟩ := x
      have hbw : b < wr.heap.size := by omega
      have hC := hid (toSyncBeat_any x1 x2 x3 x4 wr)
      have HX := hid hx
      have HO := hid ho
      simp only at c0 c1 c2 c3
      clear hx hd hb ho
      go_wp2_with fail
      refine hC.out.mono ?_
      rintro e w2 ⟨rfl, hb2⟩
      have ho2 := own_below HO.out hb2
      have hPl : (bts (q.take k)).length = k * 4 := by rw [bts_len, List.length_take, Nat.min_eq_left (by rw [hlen.out]; exact hk)]
      have hul : k * 4 + 4 ≤ us.length := by have := HUL.out; omega
      have hcur : (bts (q.take k) ++ us.drop (k * 4)).length = us.length := by rw [List.length_append, hPl, List.length_drop]; omega
      have hcell : ∀ j, j < 4 → ∃ u, w2.cell? ⟨w.heap.size, k * 4 + j, none⟩ = some u := by
        intro j hj
        rw [ho2.cellAt (k * 4 + j) (by omega)]
        exact ⟨_, List.getElem?_eq_getElem (by omega)⟩
      obtain ⟨u0, e0⟩ := hcell 0 (by omega)
      obtain ⟨u1, e1⟩ := hcell 1 (by omega)
      obtain ⟨u2, e2⟩ := hcell 2 (by omega)
      obtain ⟨u3, e3⟩ := hcell 3 (by omega)
      rw [Nat.add_zero] at e0
      have f0 := ho2.frozenAt (k * 4)
      have f1 := ho2.frozenAt (k * 4 + 1)
      have f2 := ho2.frozenAt (k * 4 + 2)
      have f3 := ho2.frozenAt (k * 4 + 3)
      obtain ⟨o1, g1⟩ := ho2.stored (k * 4) (.int .i64 x1)
      obtain ⟨o2, g2⟩ := o1.stored (k * 4 + 1) (.bool x2)
      obtain ⟨o3, g3⟩ := o2.stored (k * 4 + 2) (.int .i64 x3)
      obtain ⟨o4, g4⟩ := o3.stored (k * 4 + 3) (.bool x4)
      have hbn : bts (q.take (k + 1)) = bts (q.take k) ++ [Value.int .i64 x1, .bool x2, .int .i64 x3, .bool x4] := by
        rw [List.take_add_one, HX.out]; exact (bts_snoc _ _).symm
      rw [sets4 hPl hul, ← hbn, show k * 4 + 4 = (k + 1) * 4 by omega] at o4
      have HO4 := hid o4
      have hb3 : Below w.heap.size w w2 := bchain hb0 hb2
      have hz2 := Nat.le_trans hz hb2.size
      clear hC HO o1 o2 o3 o4 g1 g2 g3 g4 hbn ho2 hb2 c0 c1 c2 c3 hPl hul hcur hcell
      go_wp2
      go_roundw
      case rel => exact hid ⟨k + 1, by omega, by go_num, HO4.out, (by repeat' (first | exact Below.refl _ _ | (with_reducible assumption) | (with_reducible refine Below.alloc ?_ ?_ _) | (with_reducible refine Below.setCell ?_ ?_ _) | (with_reducible refine Below.drew ?_) | (with_reducible refine below_drewN ?_ _) | (refine Below.trans ?_ (Below.mono (by assumption) ?_)) | (with_reducible exact Nat.le_refl _) | (with_reducible assumption) | (exact Below.size (by assumption)) | omega | go_size | (simp at *; omega)))⟩
      case measure => simp [intOf]; omega
    · have hkn : k = n := by omega
      rw [List.take_of_length_le (by rw [hlen.out]; omega), List.drop_eq_nil_of_le (by have := HUL.out; omega), List.append_nil] at ho
      clear hkn
      go_wp2
      go_ret
      exact ⟨⟨_, _, rfl, ho⟩, hb0⟩
theorem inf_pt0 : (Try.prog.info? 140).map (fun i => (i.zero, i.size, i.bytes)) = some (some (.agg #[.int .i64 0, .bool false]), 2, 16) := by kernel_rfl
set_option maxHeartbeats 1000000 in
theorem toPassThrowS_any (A : Option Addr) (n c : Nat) (q : List PT) (w : World) (hn : n ≤ 1099511627776) (h : Rd w w.heap.size 2 A n (ths q)) :
    Calls Try.prog 174 #[.slice A n c] w fun e w' => (∃ A' c', e = .returned (.slice A' n c') ∧ w'.ownsRow w.heap.size 140 2 (.slice A' n c') n (ths q)) ∧ Below w.heap.size w w' := by
  have HR := hid h
  have hlen := hid h.th_len
  clear h
  go_enter Try.func174, Try.ntmps174
  go_wp2_with (at_make; refine make_us w.heap.size Try.underlying36 inf_pt0 rfl _ _ rfl .i64 .i64 n rfl rfl hn (by omega) (Nat.le_refl _) ?_; intro us w1 ho1 hb1)
  have HUL := hid ho1.1
  have hst : Hid (w1.ownsRow w.heap.size 140 2 (.slice (some ⟨w.heap.size, 0, none⟩) n n) n (ths (q.take 0) ++ us.drop (0 * 2))) := ho1
  clear ho1
  go_loopw [4] (fun i wr => Hid (∃ k : Nat, k ≤ n ∧ i = .int .i64 k ∧ wr.ownsRow w.heap.size 140 2 (.slice (some ⟨w.heap.size, 0, none⟩) n n) n (ths (q.take k) ++ us.drop (k * 2)) ∧ Below w.heap.size w wr)) (fun i _ => n - (intOf i).toNat)
  case atStart => exact hid ⟨0, Nat.zero_le _, rfl, hst.out, hb1⟩
  case round =>
    obtain ⟨k, hk, rfl, ho, hb0⟩ := hrel.out
    clear hrel hst hb1
    have hz := hb0.size
    by_cases hlt : k < n
    · obtain ⟨b, off, x, rfl, hb, hx, hd, c0, c1⟩ := (HR.out.below hb0 (Nat.le_refl _)).th_at hlt
      obtain ⟨x1, x2⟩ := x
      have hbw : b < wr.heap.size := by omega
      have hC := hid (toPassThrow_any x1 x2 wr)
      have HX := hid hx
      have HO := hid ho
      simp only at c0 c1
      clear hx hd hb ho
      go_wp2_with fail
      refine hC.out.mono ?_
      rintro e w2 ⟨rfl, hb2⟩
      have ho2 := own_below HO.out hb2
      have hPl : (ths (q.take k)).length = k * 2 := by rw [ths_len, List.length_take, Nat.min_eq_left (by rw [hlen.out]; exact hk)]
      have hul : k * 2 + 2 ≤ us.length := by have := HUL.out; omega
      have hcur : (ths (q.take k) ++ us.drop (k * 2)).length = us.length := by rw [List.length_append, hPl, List.length_drop]; omega
      have hcell : ∀ j, j < 2 → ∃ u, w2.cell? ⟨w.heap.size, k * 2 + j, none⟩ = some u := by
        intro j hj
        rw [ho2.cellAt (k * 2 + j) (by omega)]
        exact ⟨_, List.getElem?_eq_getElem (by omega)⟩
      obtain ⟨u0, e0⟩ := hcell 0 (by omega)
      obtain ⟨u1, e1⟩ := hcell 1 (by omega)
      rw [Nat.add_zero] at e0
      have f0 := ho2.frozenAt (k * 2)
      have f1 := ho2.frozenAt (k * 2 + 1)
      obtain ⟨o1, g1⟩ := ho2.stored (k * 2) (.int .i64 x1)
      obtain ⟨o2, g2⟩ := o1.stored (k * 2 + 1) (.bool x2)
      have hbn : ths (q.take (k + 1)) = ths (q.take k) ++ [Value.int .i64 x1, .bool x2] := by
        rw [List.take_add_one, HX.out]; exact (ths_snoc _ _).symm
      rw [sets2 hPl hul, ← hbn, show k * 2 + 2 = (k + 1) * 2 by omega] at o2
      have HO4 := hid o2
      have hb3 : Below w.heap.size w w2 := bchain hb0 hb2
      have hz2 := Nat.le_trans hz hb2.size
      clear hC HO o1 o2 g1 g2 hbn ho2 hb2 c0 c1 hPl hul hcur hcell
      go_wp2
      go_roundw
      case rel => exact hid ⟨k + 1, by omega, by go_num, HO4.out, (by repeat' (first | exact Below.refl _ _ | (with_reducible assumption) | (with_reducible refine Below.alloc ?_ ?_ _) | (with_reducible refine Below.setCell ?_ ?_ _) | (with_reducible refine Below.drew ?_) | (with_reducible refine below_drewN ?_ _) | (refine Below.trans ?_ (Below.mono (by assumption) ?_)) | (with_reducible exact Nat.le_refl _) | (with_reducible assumption) | (exact Below.size (by assumption)) | omega | go_size | (simp at *; omega)))⟩
      case measure => simp [intOf]; omega
    · have hkn : k = n := by omega
      rw [List.take_of_length_le (by rw [hlen.out]; omega), List.drop_eq_nil_of_le (by have := HUL.out; omega), List.append_nil] at ho
      clear hkn
      go_wp2
      go_ret
      exact ⟨⟨_, _, rfl, ho⟩, hb0⟩
end Go.Proofs.Ytkglkpohbckpcaa
