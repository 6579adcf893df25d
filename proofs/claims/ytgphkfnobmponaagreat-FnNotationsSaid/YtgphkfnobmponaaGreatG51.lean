/- Several texts in one: Ve, Zz, Va. -/
import Derived.Test.YtgphkfnobmponaaGreatVc
import Derived.Test.YtgphkfnobmponaaGreatZx
import Derived.Test.YtgphkfnobmponaaGreatG43
import Derived.Test.YtgphkfnobmponaaGreatG10
/- Contract of DrawNotationText. -/
namespace Go.Proofs.YtgphkfnobmponaaGreat
open Go.RowKit
set_option linter.unusedVariables false

set_option maxRecDepth 100000 in
set_option maxHeartbeats 1000000 in
theorem DrawNotationText_any (A : Option Addr) (n c : Nat) (xs : List Int) (w : World) (hn : n ≤ 1099511627776) (hx : ∀ x ∈ xs, 0 ≤ x ∧ x ≤ 255) (hr : Rd w w.heap.size 1 A n (xs.map (Value.int .u8))) :
    Calls Tryz.prog 5 #[.slice A n c] w fun e w' => (∃ (x : Note) (s : Six), e = .returned (ntV x s) ∧ NtSm x ∧ NtRd x s w') ∧ Below w.heap.size w w' := by
  have hb0 : Below w.heap.size w (w.alloc (Obj.cells (zN 0) 33)) := (by repeat' (first | exact Below.refl _ _ | (with_reducible first | assumption | exact Nat.le_refl _ | refine Below.alloc ?_ ?_ _ | refine Below.setCell ?_ ?_ _ | refine Below.drew ?_ | refine below_drewN ?_ _) | refine Below.trans ?_ (Below.mono (by assumption) ?_) | exact Below.size (by assumption) | omega | go_size | (simp at *; omega)))
  have hr0 := (hr.below hb0 (Nat.le_refl _)).more hb0.size
  have hX0 := Bx.new w 33 (zN 0)
  have hz0 : (w.alloc (Obj.cells (zN 0) 33)).heap.size = w.heap.size + 1 := by simp
  have h0 := l00From_any A n c xs _ hn hx hr0
  unfold zN at h0 hX0 hz0 hb0
  have HX0 := hid hX0
  have HZ0 := hid hz0
  have HB0 := hid hb0
  have h0 := hid h0
  clear hx hr hr0 hb0 hX0 hz0
  go_enter Tryz.func5, Tryz.ntmps5
  go_wp2_with fail
  refine h0.out.mono ?_
  rintro e w1 ⟨rfl, hs1, hb1⟩
  have z1 := hb1.size
  have l1 := hs1.lt
  rw [HZ0.out] at z1 hb1 hs1 l1
  have X1 := hid (HX0.out.below hb1 (Nat.lt_succ_self _))
  have HB1 := hid (HB0.out.trans (hb1.mono (Nat.le_succ _)))
  clear h0 HX0 HB0
  go_wp2_with fail
  refine (l07Bent_src (w.heap.size + 1) A n c 0 xs w1 (by omega) hs1).mono ?_
  rintro e w2 ⟨⟨⟨k, p, m, y, q1, q2⟩, s, rfl, hsm, hlow⟩, hs2, hg2⟩
  have hB2 := hid (HB1.out.grown hg2 (by omega) (fun g h => by injection h with h; omega))
  have X2 := hid (X1.out.grown hg2 (by intro e; injection e with e; omega))
  have SM := hid hsm
  have HL := hid (fun v0 v1 v2 v3 v4 v5 => (hlow.six w.heap.size (by omega) v0 v1 v2 v3 v4 v5).rd)
  simp only [ntV]
  clear hs1 hb1 HB1 hs2 hg2 X1 hsm hlow l1
  obtain ⟨⟨a0, a1, a2, a3, a4, a5⟩, ⟨b0, b1, b2, b3, b4, b5⟩⟩ := zc X2.out
  have hx2 := X2.out.lt
  go_wp2
  refine bodyPost_ret (v := .agg #[.int .i64 k, .slice s.A p.length s.c, .slice s.A2 m.length s.c2, .slice s.A3 y.length s.c3, .slice s.A4 q1.length s.c4, .slice s.A5 q2.length s.c5]) ?_ rfl ?_
  · simp (maxDischargeDepth := 8) [results, Tryz.results5, go_sem, *]
  exact ⟨⟨_, s, rfl, SM.out, HL.out _ _ _ _ _ _⟩, by repeat' (first | (with_reducible exact hB2.out) | (with_reducible refine Below.setCell ?_ ?_ _) | exact Nat.le_refl _)⟩
end Go.Proofs.YtgphkfnobmponaaGreat

/- Contract of l07DrawText. -/
namespace Go.Proofs.YtgphkfnobmponaaGreat
open Go.RowKit
set_option linter.unusedVariables false

theorem text_src21 (g : Nat) (A : Option Addr) (n c K : Nat) (xs : List Int) (b off m c2 : Nat) (w : World) (hK : K ≤ 1000000) (hb : b ≠ g) (hbl : b < w.heap.size) (hm1 : 1 ≤ m) (hm2 : m ≤ 100) (hc : ∀ i, i < m → ∃ y, y.size ≤ 21 ∧ w.cell? ⟨b, off + i, none⟩ = some (.string y)) (h : Src w g A n c xs K) :
    Calls Tryz.prog 69 #[.pointer (some ⟨g, 0, none⟩), .slice (some ⟨b, off, none⟩) m c2] w fun e w' => (∃ y, y.size ≤ 21 ∧ e = .returned (.string y)) ∧ Src w' g A n c xs (K + 2) ∧ w.grownBy w' (some g) := by
  have hP := hid (pick_src g A n c K xs (m : Int) w (by omega) (by omega) h)
  have HC := hid hc
  clear h hc
  go_enter Tryz.func69, Tryz.ntmps69
  go_wp2_with fail
  refine hP.out.mono ?_
  rintro e w1 ⟨⟨x, x0, x1, rfl⟩, hs1, hg1⟩
  obtain ⟨i, rfl⟩ := Int.eq_ofNat_of_zero_le x0
  have hi : i < m := by omega
  obtain ⟨y, hys, hy⟩ := HC.out i hi
  have hcell : w1.cell? ⟨b, off + i, none⟩ = some (.string y) := (World.cell?_of_block (hg1.block b hbl (by simp; exact hb))).trans hy
  clear x1
  go_wp2
  go_ret
  exact ⟨⟨y, hys, rfl⟩, hs1, hg1⟩
theorem fifteen_any (w : World) (b : Nat) (hb : b = w.heap.size) (t : TypeId) : ∀ i, i < 15 → ∃ y : ByteArray, y.size ≤ 21 ∧ (w.alloc (Obj.cells #[.string ⟨#[]⟩, .string ⟨#[52, 51, 50]⟩, .string ⟨#[53, 51, 32, 49]⟩, .string ⟨#[91, 52, 51, 93, 50]⟩, .string ⟨#[91, 51, 52, 93, 50, 51]⟩, .string ⟨#[40, 52, 44, 50, 120, 41]⟩, .string ⟨#[40, 52, 44, 50, 120, 41, 42]⟩, .string ⟨#[40, 52, 44, 52, 41, 40, 52, 44, 52, 41, 40, 52, 44, 52, 41, 40, 52, 44, 52, 41, 42]⟩, .string ⟨#[60, 51, 124, 52, 62]⟩, .string ⟨#[60, 51, 51, 124, 51, 51, 112, 62]⟩, .string ⟨#[91]⟩, .string ⟨#[60, 51, 112, 32, 51, 124, 51, 112, 32, 51, 62, 120]⟩, .string ⟨#[103]⟩, .string ⟨#[40, 52, 59, 52, 41]⟩, .string ⟨#[51, 51, 51, 51, 51, 51, 51, 51, 51, 51, 51, 51, 51]⟩] t)).cell? ⟨b, 0 + i, none⟩ = some (.string y) := by
  intro i hi
  subst hb
  rw [World.cell?_alloc_at _ _ _ _ rfl]
  match i, hi with
  | 0, _ => refine ⟨_, ?_, rfl⟩; decide
  | 1, _ => refine ⟨_, ?_, rfl⟩; decide
  | 2, _ => refine ⟨_, ?_, rfl⟩; decide
  | 3, _ => refine ⟨_, ?_, rfl⟩; decide
  | 4, _ => refine ⟨_, ?_, rfl⟩; decide
  | 5, _ => refine ⟨_, ?_, rfl⟩; decide
  | 6, _ => refine ⟨_, ?_, rfl⟩; decide
  | 7, _ => refine ⟨_, ?_, rfl⟩; decide
  | 8, _ => refine ⟨_, ?_, rfl⟩; decide
  | 9, _ => refine ⟨_, ?_, rfl⟩; decide
  | 10, _ => refine ⟨_, ?_, rfl⟩; decide
  | 11, _ => refine ⟨_, ?_, rfl⟩; decide
  | 12, _ => refine ⟨_, ?_, rfl⟩; decide
  | 13, _ => refine ⟨_, ?_, rfl⟩; decide
  | 14, _ => refine ⟨_, ?_, rfl⟩; decide
set_option maxRecDepth 100000 in
set_option maxHeartbeats 4000000 in
theorem l07DrawText_src (g : Nat) (A : Option Addr) (n c K : Nat) (xs : List Int) (w : World) (hK : K ≤ 200) (h : Src w g A n c xs K) :
    Calls Tryz.prog 34 #[.pointer (some ⟨g, 0, none⟩)] w fun e w' => StrRes e ∧ Src w' g A n c xs (K + 800) ∧ w.grownBy w' (some g) := by
  have hgl := h.lt
  have hP := hid (l07Draw_src g A n c K xs w hK h)
  clear h
  go_enter Tryz.func34, Tryz.ntmps34
  go_wp2_with fail
  refine hP.out.mono ?_
  rintro e w1 ⟨⟨⟨k, p1, m1, y1, q1, q2⟩, s, rfl, hsm, htx, hle, hdr⟩, hs1, hg1⟩
  simp only [ntV]
  have z1 := hg1.size
  have S1 := hid hs1
  have G1 := hid hg1
  have D1 := hid hdr
  have T1 := hid htx
  clear hP hs1 hg1 hdr htx hsm hle
  have hbA : Below w1.heap.size w1 (w1.alloc (Obj.cells #[.int .i64 k, .slice s.A p1.length s.c, .slice s.A2 m1.length s.c2, .slice s.A3 y1.length s.c3, .slice s.A4 q1.length s.c4, .slice s.A5 q2.length s.c5] 33)) := (by repeat' (first | exact Below.refl _ _ | (with_reducible first | assumption | exact Nat.le_refl _ | refine Below.alloc ?_ ?_ _ | refine Below.setCell ?_ ?_ _ | refine Below.drew ?_ | refine below_drewN ?_ _) | refine Below.trans ?_ (Below.mono (by assumption) ?_) | exact Below.size (by assumption) | omega | go_size | (simp at *; omega)))
  have Y2 := hid (Bx.new w1 33 #[.int .i64 k, .slice s.A p1.length s.c, .slice s.A2 m1.length s.c2, .slice s.A3 y1.length s.c3, .slice s.A4 q1.length s.c4, .slice s.A5 q2.length s.c5])
  have S2 := hid (S1.out.below hbA (by omega))
  have G2 := hid (grown_bl G1.out hbA (by omega))
  have D2 := hid (D1.out.below hbA)
  have Z2 := hid hbA.size
  clear hbA S1 G1 D1
  go_wp2_with fail
  obtain ⟨W, hW⟩ : ∃ W, w1.alloc (Obj.cells #[.int .i64 k, .slice s.A p1.length s.c, .slice s.A2 m1.length s.c2, .slice s.A3 y1.length s.c3, .slice s.A4 q1.length s.c4, .slice s.A5 q2.length s.c5] 33) = W := ⟨_, rfl⟩
  rw [hW] at Y2 S2 G2 D2 Z2 ⊢
  clear hW
  refine (l07Text_b w1.heap.size k p1 m1 y1 q1 q2 s W Y2.out D2.out.rd T1.out).mono ?_
  rintro e w3 ⟨⟨T, rfl, hT⟩, hb3⟩
  have hzW := Z2.out
  have z3 := hb3.size
  have S3 := hid (S2.out.below hb3 (by omega))
  have G3 := hid (grown_bl G2.out hb3 (by omega))
  clear hb3 S2 G2 Y2 D2 T1 Z2
  go_wp2_with fail
  refine (pick_src g A n c (K + 700) xs 8 w3 (by omega) (by omega) S3.out).mono ?_
  rintro e w4 ⟨⟨x, x0, x1, rfl⟩, hs4, hg4⟩
  have hgg4 := grown_trans G3.out hg4
  have S4 := hid hs4
  have G4 := hid hgg4
  have z4 := hgg4.size
  clear hs4 hg4 hgg4 x1 S3 G3
  by_cases c0 : x = 0
  · subst c0
    go_wp2_with fail
    refine (l01Spoil_src g A n c (K + 702) xs T w4 (by omega) (by omega) S4.out).mono ?_
    rintro e w5 ⟨⟨S, hS, rfl⟩, hs5, hg5⟩
    go_wp2
    go_ret
    exact ⟨⟨S, hS, rfl⟩, hs5.more (by omega), grown_trans G4.out hg5⟩
  · by_cases c1 : x = 1
    · subst c1
      have hs4 := S4.out
      go_wp2_with fail
      refine (text_src21 g A n c (K + 702) xs w4.heap.size 0 15 15 _ (by omega) (by omega) (by simp) (by omega) (by omega) (fifteen_any w4 _ rfl _) (hs4.below (B := w4.heap.size) (by repeat' (first | exact Below.refl _ _ | (with_reducible first | assumption | exact Nat.le_refl _ | refine Below.alloc ?_ ?_ _ | refine Below.setCell ?_ ?_ _ | refine Below.drew ?_ | refine below_drewN ?_ _) | refine Below.trans ?_ (Below.mono (by assumption) ?_) | exact Below.size (by assumption) | omega | go_size | (simp at *; omega))) (by omega))).mono ?_
      rintro e w6 ⟨⟨y, hy, rfl⟩, hs6, hg6⟩
      have hg5 : w.grownBy (w4.alloc (Obj.cells #[.string ⟨#[]⟩, .string ⟨#[52, 51, 50]⟩, .string ⟨#[53, 51, 32, 49]⟩, .string ⟨#[91, 52, 51, 93, 50]⟩, .string ⟨#[91, 51, 52, 93, 50, 51]⟩, .string ⟨#[40, 52, 44, 50, 120, 41]⟩, .string ⟨#[40, 52, 44, 50, 120, 41, 42]⟩, .string ⟨#[40, 52, 44, 52, 41, 40, 52, 44, 52, 41, 40, 52, 44, 52, 41, 40, 52, 44, 52, 41, 42]⟩, .string ⟨#[60, 51, 124, 52, 62]⟩, .string ⟨#[60, 51, 51, 124, 51, 51, 112, 62]⟩, .string ⟨#[91]⟩, .string ⟨#[60, 51, 112, 32, 51, 124, 51, 112, 32, 51, 62, 120]⟩, .string ⟨#[103]⟩, .string ⟨#[40, 52, 59, 52, 41]⟩, .string ⟨#[51, 51, 51, 51, 51, 51, 51, 51, 51, 51, 51, 51, 51]⟩] 9)) (some g) := grown_bl G4.out (B := w4.heap.size) (by repeat' (first | exact Below.refl _ _ | (with_reducible first | assumption | exact Nat.le_refl _ | refine Below.alloc ?_ ?_ _ | refine Below.setCell ?_ ?_ _ | refine Below.drew ?_ | refine below_drewN ?_ _) | refine Below.trans ?_ (Below.mono (by assumption) ?_) | exact Below.size (by assumption) | omega | go_size | (simp at *; omega))) z4
      have hg7 := grown_trans hg5 hg6
      go_wp2
      go_ret
      exact ⟨⟨y, by omega, rfl⟩, hs6.more (by omega), hg7⟩
    · by_cases c2 : x = 2
      · subst c2
        go_wp2_with fail
        refine (pick_src g A n c (K + 702) xs 2 w4 (by omega) (by omega) S4.out).mono ?_
        rintro e w5 ⟨⟨m, m0, m1, rfl⟩, hs5, hg5⟩
        obtain ⟨N, hN⟩ : ∃ N : Nat, 200 + m = (N : Int) := ⟨(200 + m).toNat, by omega⟩
        have hN2 : N ≤ 201 := by omega
        have G5 := hid (grown_trans G4.out hg5)
        have S5 := hid hs5
        clear hs5 hg5 m0 m1 S4 G4
        go_wp2
        clear hN x0 c0 c1
        go_loopw [4] (fun v wr => Hid (∃ t : ByteArray, v = .string t ∧ t.size ≤ 201 ∧ wr = w5)) (fun v _ => match v with | .string t => 300 - t.size | _ => 0)
        case atStart => exact hid ⟨T, rfl, by omega, rfl⟩
        case round =>
          obtain ⟨t, rfl, ht, rfl⟩ := hrel.out
          clear hrel
          by_cases hlt : t.size < N
          · have hq : (t.size : Int) < (N : Int) := by omega
            have hz : (t ++ (⟨#[51]⟩ : ByteArray)).size = t.size + 1 := by rw [ByteArray.size_append]; rfl
            go_wp2
            go_roundw
            case rel => exact hid ⟨_, rfl, by omega, by first | rfl | trivial⟩
            case measure => show 300 - (t ++ (⟨#[51]⟩ : ByteArray)).size < 300 - t.size; omega
          · have hq : ¬ (t.size : Int) < (N : Int) := by omega
            go_wp2
            go_ret
            exact ⟨⟨t, by omega, rfl⟩, S5.out.more (by omega), G5.out⟩
      · have hs4 := S4.out
        go_wp2
        go_ret
        exact ⟨⟨T, by omega, rfl⟩, hs4.more (by omega), G4.out⟩
end Go.Proofs.YtgphkfnobmponaaGreat

/- Contracts of DrawNotationFault and DrawKindOfText. -/
namespace Go.Proofs.YtgphkfnobmponaaGreat
open Go.RowKit
set_option linter.unusedVariables false

theorem DrawNotationFault_any (A : Option Addr) (n c : Nat) (xs : List Int) (w : World) (hn : n ≤ 1099511627776) (hx : ∀ x ∈ xs, 0 ≤ x ∧ x ≤ 255) (hr : Rd w w.heap.size 1 A n (xs.map (Value.int .u8))) :
    Calls Tryz.prog 8 #[.slice A n c] w fun e w' => StrRes e ∧ Below w.heap.size w w' := by
  have h0 := hid (l00From_any A n c xs w hn hx hr)
  clear hx hr
  go_enter Tryz.func8, Tryz.ntmps8
  go_wp2_with fail
  refine h0.out.mono ?_
  rintro e w1 ⟨rfl, hs1, hb1⟩
  have z1 := hb1.size
  have l1 := hs1.lt
  clear h0
  go_wp2_with fail
  refine (l07DrawText_src _ A n c 0 xs w1 (by omega) hs1).mono ?_
  rintro e w2 ⟨⟨S, hS, rfl⟩, hs2, hg2⟩
  have hB2 : Below w.heap.size w w2 := hb1.grown hg2 z1 (fun g h => by simp at h; omega)
  go_wp2
  go_ret
  exact ⟨⟨S, hS, rfl⟩, hB2⟩
theorem DrawKindOfText_any (A : Option Addr) (n c : Nat) (xs : List Int) (w : World) (hn : n ≤ 1099511627776) (hx : ∀ x ∈ xs, 0 ≤ x ∧ x ≤ 255) (hr : Rd w w.heap.size 1 A n (xs.map (Value.int .u8))) :
    Calls Tryz.prog 14 #[.slice A n c] w fun e w' => StrRes e ∧ Below w.heap.size w w' := by
  have h0 := hid (l00From_any A n c xs w hn hx hr)
  clear hx hr
  go_enter Tryz.func14, Tryz.ntmps14
  go_wp2_with fail
  refine h0.out.mono ?_
  rintro e w1 ⟨rfl, hs1, hb1⟩
  have z1 := hb1.size
  have l1 := hs1.lt
  clear h0
  go_wp2_with fail
  refine (l07DrawText_src _ A n c 0 xs w1 (by omega) hs1).mono ?_
  rintro e w2 ⟨⟨S, hS, rfl⟩, hs2, hg2⟩
  have hB2 : Below w.heap.size w w2 := hb1.grown hg2 z1 (fun g h => by simp at h; omega)
  go_wp2
  go_ret
  exact ⟨⟨S, hS, rfl⟩, hB2⟩
end Go.Proofs.YtgphkfnobmponaaGreat
