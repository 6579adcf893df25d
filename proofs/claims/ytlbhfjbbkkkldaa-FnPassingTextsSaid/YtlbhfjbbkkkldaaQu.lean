/- The walk of the law FnPassingTexts. -/
import Derived.Test.YtlbhfjbbkkkldaaQr
import Derived.Test.YtlbhfjbbkkkldaaQt
import Derived.Test.YtlbhfjbbkkkldaaQf
import Derived.Test.YtlbhfjbbkkkldaaQh
import Derived.Test.YtlbhfjbbkkkldaaF6
import Derived.Deep.RegionHeld3
namespace Go.Proofs.Ytlbhfjbbkkkldaa
open Go.RowKit
set_option linter.unusedVariables false

theorem rReadP_len {l : List UInt8} {R : Psg} {one : Bool} (h : rReadPassing l = (R, one)) : R.1.length ≤ 8 ∧ R.2.length ≤ 8 := by
  unfold rReadPassing at h
  cases hm : rdPa l with
  | none =>
    rw [hm] at h
    have h2 : ((([], []) : Psg), false) = (R, one) := h
    injection h2 with h2 _
    rw [← h2]
    exact ⟨Nat.zero_le _, Nat.zero_le _⟩
  | some q =>
    rw [hm] at h
    have h2 : (if psOk q then (q, true) else ((([], []) : Psg), false)) = (R, one) := h
    split at h2
    · rename_i hq
      injection h2 with h2 _
      rw [← h2]
      have := psSh_iff.1 (psOk_iff.1 hq).1
      omega
    · injection h2 with h2 _
      rw [← h2]
      exact ⟨Nat.zero_le _, Nat.zero_le _⟩
theorem rReadP_empty : rReadPassing (tl (⟨#[]⟩ : ByteArray)) = (([], []), false) := rfl
theorem arr_get {α : Type} {l : List α} {i : Nat} {x : α} (h : l[i]? = some x) : l.toArray[i]? = some x := by simpa using h
theorem at_zero {α : Type} {a : α} {l : List α} : (a :: l)[0]? = some a := rfl
theorem at_succ {α : Type} {a x : α} {l : List α} {i : Nat} (h : l[i]? = some x) : (a :: l)[i + 1]? = some x := h
theorem same_psg {p : Psg} : decide (p = p) = true := decide_eq_true rfl
set_option maxRecDepth 100000 in
set_option maxHeartbeats 8000000 in
theorem fnPassingTexts_main (w : World) (A : Option Addr) (n c : Nat) (xs : List Int) (hK : Came .u8 w A n c xs) (hl : n ≤ 4096) :
    Calls Try.prog 4 #[.slice A n c] w fun e w' => e = .returned (.bool true) ∧ Below w.heap.size w w' := by
  have hq : decide (4096 < n) = false := by simp; omega
  have hL := f6big_any A n c w (by omega)
  rw [hq] at hL
  have hL := hid hL
  have hR := hid (fun (w1 : World) (b : Below w.heap.size w w1) => ((Rd.of_came hK).below b (Nat.le_refl _)).more b.size)
  have hX := hid hK.bytes
  have HB : Hid (Below w.heap.size w w) := Below.refl _ _
  clear hK hq
  go_enter Try.func4, Try.ntmps4
  go_wp2_with (go_at_call 9; refine (hL.out).mono ?_; rintro e w' ⟨rfl, rfl⟩)
  refine (DrawPassingText_any A n c xs _ (by omega) hX.out (hR.out _ HB.out)).mono ?_
  rintro e w1 ⟨⟨A1, n1, c1, B1, m1, d1, rfl, p, hp1, hp2, hn1, hm1⟩, hb1⟩
  have HM1 := hid hp1.rd
  have HN1 := hid hp2.rd
  have hl1 := hid hp1.1
  have hl2 := hid hp2.1
  clear hp1 hp2 hL
  have HB := hid (bchain HB.out hb1)
  have hal : Below w1.heap.size w1 (w1.alloc (Obj.cells #[.slice A1 n1 c1, .slice B1 m1 d1] 35)) := (by repeat' (first | exact Below.refl _ _ | (with_reducible assumption) | (with_reducible refine Below.alloc ?_ ?_ _) | (with_reducible refine Below.setCell ?_ ?_ _) | (with_reducible refine Below.drew ?_) | (with_reducible refine below_drewN ?_ _) | (refine Below.trans ?_ (Below.mono (by assumption) ?_)) | (with_reducible exact Nat.le_refl _) | (with_reducible assumption) | (exact Below.size (by assumption)) | omega | go_size | (simp at *; omega)))
  have X1 := hid (Bx.new w1 35 #[.slice A1 n1 c1, .slice B1 m1 d1])
  have M1 := hid ((HM1.out.below hal (Nat.le_refl _)).more hal.size)
  have N1 := hid ((HN1.out.below hal (Nat.le_refl _)).more hal.size)
  have HB := hid (bchain HB.out hal)
  clear hal
  clear hb1
  clear HM1 HN1
  obtain ⟨t, ht⟩ : ∃ t, st (rPassingText p) = t := ⟨_, rfl⟩
  have hTs : t.size ≤ 100 := by
    rw [← ht, st_size]; unfold rPassingText; split
    · rename_i h; have := psSh_tlen (psOk_iff.1 h).1; omega
    · simp
  have hTT := toList_eqq t
  have HT := hid ht
  clear ht
  have hC := PassingText_any A1 B1 n1 c1 m1 d1 p (w1.alloc (Obj.cells #[.slice A1 n1 c1, .slice B1 m1 d1] 35)) (by omega) (by omega) M1.out N1.out
  rw [HT.out] at hC
  replace hC := hid hC
  go_wp2_with fail
  refine (hC.out).mono ?_
  rintro e w2 ⟨rfl, hb2⟩
  try clear l1
  try clear x1 y1
  clear hC
  have X1 := hid (X1.out.below hb2 X1.out.lt)
  have M1 := hid ((M1.out.below hb2 (Nat.le_refl _)).more hb2.size)
  have N1 := hid ((N1.out.below hb2 (Nat.le_refl _)).more hb2.size)
  have HB := hid (bchain HB.out hb2)
  have l1 : w1.heap.size < w2.heap.size := X1.out.lt
  have x1 : w2.cell? ⟨w1.heap.size, 0, none⟩ = some (.slice A1 n1 c1) := bx_p0 X1.out
  have y1 : w2.cell? ⟨w1.heap.size, 1, none⟩ = some (.slice B1 m1 d1) := bx_p1 X1.out
  clear hb2
  cases hp : psOk p with
  | true =>
    have HBK : Hid (rReadPassing (tl t) = (p, true)) := by show _ = _; rw [← HT.out, tl_st, rPassingText, hp]; exact passing_there hp
    have hiE : t.toList.isEmpty = false := by
      rw [tl_empty, ← HT.out, tl_st, rPassingText, hp]; exact decide_eq_false (by intro e; have := congrArg List.length e; simp [paT] at this)
    clear hp
    have hC := ReadPassing_any t w2 (by first | omega | decide)
    rw [HBK.out] at hC
    replace hC := hid hC
    go_wp2_with fail
    refine (hC.out).mono ?_
    rintro e w3 ⟨⟨A2, c2, B2, d2, _, _, rfl, ho2, hp2⟩, hb3⟩
    try clear l1
    try clear x1 y1
    clear hC
    simp only at ho2 hp2
    have HO2 := hid (Rd.of_own ho2)
    have HP2 := hid (Rd.of_own hp2)
    clear ho2 hp2
    have X1 := hid (X1.out.below hb3 X1.out.lt)
    have M1 := hid ((M1.out.below hb3 (Nat.le_refl _)).more hb3.size)
    have N1 := hid ((N1.out.below hb3 (Nat.le_refl _)).more hb3.size)
    have HB := hid (bchain HB.out hb3)
    have l1 : w1.heap.size < w3.heap.size := X1.out.lt
    have x1 : w3.cell? ⟨w1.heap.size, 0, none⟩ = some (.slice A1 n1 c1) := bx_p0 X1.out
    have y1 : w3.cell? ⟨w1.heap.size, 1, none⟩ = some (.slice B1 m1 d1) := bx_p1 X1.out
    have hal : Below w3.heap.size w3 (w3.alloc (Obj.cells #[.slice A2 p.1.length c2, .slice B2 p.2.length d2] 35)) := (by repeat' (first | exact Below.refl _ _ | (with_reducible assumption) | (with_reducible refine Below.alloc ?_ ?_ _) | (with_reducible refine Below.setCell ?_ ?_ _) | (with_reducible refine Below.drew ?_) | (with_reducible refine below_drewN ?_ _) | (refine Below.trans ?_ (Below.mono (by assumption) ?_)) | (with_reducible exact Nat.le_refl _) | (with_reducible assumption) | (exact Below.size (by assumption)) | omega | go_size | (simp at *; omega)))
    have X1 := hid (X1.out.alloc (Obj.cells #[.slice A2 p.1.length c2, .slice B2 p.2.length d2] 35))
    have M1 := hid ((M1.out.below hal (Nat.le_refl _)).more hal.size)
    have N1 := hid ((N1.out.below hal (Nat.le_refl _)).more hal.size)
    have X2 := hid (Bx.new w3 35 #[.slice A2 p.1.length c2, .slice B2 p.2.length d2])
    have M2 := hid ((HO2.out.below hal (Nat.le_refl _)).more hal.size)
    have N2 := hid ((HP2.out.below hal (Nat.le_refl _)).more hal.size)
    have HB := hid (bchain HB.out hal)
    clear hal
    clear hb3
    clear HO2 HP2
    go_wp2_with fail
    refine (DrawReadPassing_any A n c xs _ (by omega) hX.out (hR.out _ HB.out)).mono ?_
    rintro e w4 ⟨⟨S, hS, rfl⟩, hb4⟩
    try clear l1 l2
    try clear x1 y1 x2 y2
    have X1 := hid (X1.out.below hb4 X1.out.lt)
    have M1 := hid ((M1.out.below hb4 (Nat.le_refl _)).more hb4.size)
    have N1 := hid ((N1.out.below hb4 (Nat.le_refl _)).more hb4.size)
    have X2 := hid (X2.out.below hb4 X2.out.lt)
    have M2 := hid ((M2.out.below hb4 (Nat.le_refl _)).more hb4.size)
    have N2 := hid ((N2.out.below hb4 (Nat.le_refl _)).more hb4.size)
    have HB := hid (bchain HB.out hb4)
    have l1 : w1.heap.size < w4.heap.size := X1.out.lt
    have x1 : w4.cell? ⟨w1.heap.size, 0, none⟩ = some (.slice A1 n1 c1) := bx_p0 X1.out
    have y1 : w4.cell? ⟨w1.heap.size, 1, none⟩ = some (.slice B1 m1 d1) := bx_p1 X1.out
    have l2 : w3.heap.size < w4.heap.size := X2.out.lt
    have x2 : w4.cell? ⟨w3.heap.size, 0, none⟩ = some (.slice A2 p.1.length c2) := bx_p0 X2.out
    have y2 : w4.cell? ⟨w3.heap.size, 1, none⟩ = some (.slice B2 p.2.length d2) := bx_p1 X2.out
    clear hb4
    obtain ⟨⟨R, one⟩, hR2⟩ : ∃ x, rReadPassing (tl S) = x := ⟨_, rfl⟩
    have HRL := hid (rReadP_len hR2)
    have HR := hid hR2
    have hRn : R.1.length ≤ 8 := HRL.out.1
    have hRm : R.2.length ≤ 8 := HRL.out.2
    have hSS := toList_eqq S
    clear hR2
    have hC := ReadPassing_any S w4 (by first | omega | decide)
    rw [HR.out] at hC
    replace hC := hid hC
    go_wp2_with fail
    refine (hC.out).mono ?_
    rintro e w5 ⟨⟨A3, c3, B3, d3, _, _, rfl, ho3, hp3⟩, hb5⟩
    try clear l1 l2
    try clear x1 y1 x2 y2
    clear hC
    simp only at ho3 hp3
    have HO3 := hid (Rd.of_own ho3)
    have HP3 := hid (Rd.of_own hp3)
    clear ho3 hp3
    have X1 := hid (X1.out.below hb5 X1.out.lt)
    have M1 := hid ((M1.out.below hb5 (Nat.le_refl _)).more hb5.size)
    have N1 := hid ((N1.out.below hb5 (Nat.le_refl _)).more hb5.size)
    have X2 := hid (X2.out.below hb5 X2.out.lt)
    have M2 := hid ((M2.out.below hb5 (Nat.le_refl _)).more hb5.size)
    have N2 := hid ((N2.out.below hb5 (Nat.le_refl _)).more hb5.size)
    have HB := hid (bchain HB.out hb5)
    have l1 : w1.heap.size < w5.heap.size := X1.out.lt
    have x1 : w5.cell? ⟨w1.heap.size, 0, none⟩ = some (.slice A1 n1 c1) := bx_p0 X1.out
    have y1 : w5.cell? ⟨w1.heap.size, 1, none⟩ = some (.slice B1 m1 d1) := bx_p1 X1.out
    have l2 : w3.heap.size < w5.heap.size := X2.out.lt
    have x2 : w5.cell? ⟨w3.heap.size, 0, none⟩ = some (.slice A2 p.1.length c2) := bx_p0 X2.out
    have y2 : w5.cell? ⟨w3.heap.size, 1, none⟩ = some (.slice B2 p.2.length d2) := bx_p1 X2.out
    have hal : Below w5.heap.size w5 (w5.alloc (Obj.cells #[.slice A3 R.1.length c3, .slice B3 R.2.length d3] 35)) := (by repeat' (first | exact Below.refl _ _ | (with_reducible assumption) | (with_reducible refine Below.alloc ?_ ?_ _) | (with_reducible refine Below.setCell ?_ ?_ _) | (with_reducible refine Below.drew ?_) | (with_reducible refine below_drewN ?_ _) | (refine Below.trans ?_ (Below.mono (by assumption) ?_)) | (with_reducible exact Nat.le_refl _) | (with_reducible assumption) | (exact Below.size (by assumption)) | omega | go_size | (simp at *; omega)))
    have X1 := hid (X1.out.alloc (Obj.cells #[.slice A3 R.1.length c3, .slice B3 R.2.length d3] 35))
    have M1 := hid ((M1.out.below hal (Nat.le_refl _)).more hal.size)
    have N1 := hid ((N1.out.below hal (Nat.le_refl _)).more hal.size)
    have X2 := hid (X2.out.alloc (Obj.cells #[.slice A3 R.1.length c3, .slice B3 R.2.length d3] 35))
    have M2 := hid ((M2.out.below hal (Nat.le_refl _)).more hal.size)
    have N2 := hid ((N2.out.below hal (Nat.le_refl _)).more hal.size)
    have X3 := hid (Bx.new w5 35 #[.slice A3 R.1.length c3, .slice B3 R.2.length d3])
    have M3 := hid ((HO3.out.below hal (Nat.le_refl _)).more hal.size)
    have N3 := hid ((HP3.out.below hal (Nat.le_refl _)).more hal.size)
    have HB := hid (bchain HB.out hal)
    clear hal
    clear hb5
    clear HO3 HP3
    have hC := specReadPassing_any S (w5.alloc (Obj.cells #[.slice A3 R.1.length c3, .slice B3 R.2.length d3] 35)) (by first | omega | decide)
    rw [HR.out] at hC
    replace hC := hid hC
    go_wp2_with fail
    refine (hC.out).mono ?_
    rintro e w6 ⟨⟨A4, c4, B4, d4, _, _, rfl, ho4, hp4⟩, hb6⟩
    try clear l1 l2 l3
    try clear x1 y1 x2 y2 x3 y3
    clear hC
    simp only at ho4 hp4
    have HO4 := hid (Rd.of_own ho4)
    have HP4 := hid (Rd.of_own hp4)
    clear ho4 hp4
    have X1 := hid (X1.out.below hb6 X1.out.lt)
    have M1 := hid ((M1.out.below hb6 (Nat.le_refl _)).more hb6.size)
    have N1 := hid ((N1.out.below hb6 (Nat.le_refl _)).more hb6.size)
    have X2 := hid (X2.out.below hb6 X2.out.lt)
    have M2 := hid ((M2.out.below hb6 (Nat.le_refl _)).more hb6.size)
    have N2 := hid ((N2.out.below hb6 (Nat.le_refl _)).more hb6.size)
    have X3 := hid (X3.out.below hb6 X3.out.lt)
    have M3 := hid ((M3.out.below hb6 (Nat.le_refl _)).more hb6.size)
    have N3 := hid ((N3.out.below hb6 (Nat.le_refl _)).more hb6.size)
    have HB := hid (bchain HB.out hb6)
    have l1 : w1.heap.size < w6.heap.size := X1.out.lt
    have x1 : w6.cell? ⟨w1.heap.size, 0, none⟩ = some (.slice A1 n1 c1) := bx_p0 X1.out
    have y1 : w6.cell? ⟨w1.heap.size, 1, none⟩ = some (.slice B1 m1 d1) := bx_p1 X1.out
    have l2 : w3.heap.size < w6.heap.size := X2.out.lt
    have x2 : w6.cell? ⟨w3.heap.size, 0, none⟩ = some (.slice A2 p.1.length c2) := bx_p0 X2.out
    have y2 : w6.cell? ⟨w3.heap.size, 1, none⟩ = some (.slice B2 p.2.length d2) := bx_p1 X2.out
    have l3 : w5.heap.size < w6.heap.size := X3.out.lt
    have x3 : w6.cell? ⟨w5.heap.size, 0, none⟩ = some (.slice A3 R.1.length c3) := bx_p0 X3.out
    have y3 : w6.cell? ⟨w5.heap.size, 1, none⟩ = some (.slice B3 R.2.length d3) := bx_p1 X3.out
    have hal : Below w6.heap.size w6 (w6.alloc (Obj.cells #[.slice A4 R.1.length c4, .slice B4 R.2.length d4] 35)) := (by repeat' (first | exact Below.refl _ _ | (with_reducible assumption) | (with_reducible refine Below.alloc ?_ ?_ _) | (with_reducible refine Below.setCell ?_ ?_ _) | (with_reducible refine Below.drew ?_) | (with_reducible refine below_drewN ?_ _) | (refine Below.trans ?_ (Below.mono (by assumption) ?_)) | (with_reducible exact Nat.le_refl _) | (with_reducible assumption) | (exact Below.size (by assumption)) | omega | go_size | (simp at *; omega)))
    have X1 := hid (X1.out.alloc (Obj.cells #[.slice A4 R.1.length c4, .slice B4 R.2.length d4] 35))
    have M1 := hid ((M1.out.below hal (Nat.le_refl _)).more hal.size)
    have N1 := hid ((N1.out.below hal (Nat.le_refl _)).more hal.size)
    have X2 := hid (X2.out.alloc (Obj.cells #[.slice A4 R.1.length c4, .slice B4 R.2.length d4] 35))
    have M2 := hid ((M2.out.below hal (Nat.le_refl _)).more hal.size)
    have N2 := hid ((N2.out.below hal (Nat.le_refl _)).more hal.size)
    have X3 := hid (X3.out.alloc (Obj.cells #[.slice A4 R.1.length c4, .slice B4 R.2.length d4] 35))
    have M3 := hid ((M3.out.below hal (Nat.le_refl _)).more hal.size)
    have N3 := hid ((N3.out.below hal (Nat.le_refl _)).more hal.size)
    have X4 := hid (Bx.new w6 35 #[.slice A4 R.1.length c4, .slice B4 R.2.length d4])
    have M4 := hid ((HO4.out.below hal (Nat.le_refl _)).more hal.size)
    have N4 := hid ((HP4.out.below hal (Nat.le_refl _)).more hal.size)
    have HB := hid (bchain HB.out hal)
    clear hal
    clear hb6
    clear HO4 HP4
    go_wp2_with fail
    refine (DrawSamePassing_any A n c xs _ (by omega) hX.out (hR.out _ HB.out)).mono ?_
    rintro e w7 ⟨⟨A5, n5, c5, B5, m5, d5, A6, n6, c6, B6, m6, d6, rfl, ⟨p5, hu1, hu2, hu3, hu4⟩, ⟨p6, hv1, hv2, hv3, hv4⟩⟩, hb7⟩
    try clear l1 l2 l3 l4
    try clear x1 y1 x2 y2 x3 y3 x4 y4
    have HO5 := hid hu1.rd
    have HP5 := hid hu2.rd
    have HO6 := hid hv1.rd
    have HP6 := hid hv2.rd
    clear hu1 hu2 hv1 hv2
    have X1 := hid (X1.out.below hb7 X1.out.lt)
    have M1 := hid ((M1.out.below hb7 (Nat.le_refl _)).more hb7.size)
    have N1 := hid ((N1.out.below hb7 (Nat.le_refl _)).more hb7.size)
    have X2 := hid (X2.out.below hb7 X2.out.lt)
    have M2 := hid ((M2.out.below hb7 (Nat.le_refl _)).more hb7.size)
    have N2 := hid ((N2.out.below hb7 (Nat.le_refl _)).more hb7.size)
    have X3 := hid (X3.out.below hb7 X3.out.lt)
    have M3 := hid ((M3.out.below hb7 (Nat.le_refl _)).more hb7.size)
    have N3 := hid ((N3.out.below hb7 (Nat.le_refl _)).more hb7.size)
    have X4 := hid (X4.out.below hb7 X4.out.lt)
    have M4 := hid ((M4.out.below hb7 (Nat.le_refl _)).more hb7.size)
    have N4 := hid ((N4.out.below hb7 (Nat.le_refl _)).more hb7.size)
    have HB := hid (bchain HB.out hb7)
    have l1 : w1.heap.size < w7.heap.size := X1.out.lt
    have x1 : w7.cell? ⟨w1.heap.size, 0, none⟩ = some (.slice A1 n1 c1) := bx_p0 X1.out
    have y1 : w7.cell? ⟨w1.heap.size, 1, none⟩ = some (.slice B1 m1 d1) := bx_p1 X1.out
    have l2 : w3.heap.size < w7.heap.size := X2.out.lt
    have x2 : w7.cell? ⟨w3.heap.size, 0, none⟩ = some (.slice A2 p.1.length c2) := bx_p0 X2.out
    have y2 : w7.cell? ⟨w3.heap.size, 1, none⟩ = some (.slice B2 p.2.length d2) := bx_p1 X2.out
    have l3 : w5.heap.size < w7.heap.size := X3.out.lt
    have x3 : w7.cell? ⟨w5.heap.size, 0, none⟩ = some (.slice A3 R.1.length c3) := bx_p0 X3.out
    have y3 : w7.cell? ⟨w5.heap.size, 1, none⟩ = some (.slice B3 R.2.length d3) := bx_p1 X3.out
    have l4 : w6.heap.size < w7.heap.size := X4.out.lt
    have x4 : w7.cell? ⟨w6.heap.size, 0, none⟩ = some (.slice A4 R.1.length c4) := bx_p0 X4.out
    have y4 : w7.cell? ⟨w6.heap.size, 1, none⟩ = some (.slice B4 R.2.length d4) := bx_p1 X4.out
    have hal : Below w7.heap.size w7 (w7.alloc (Obj.cells #[.slice A5 n5 c5, .slice B5 m5 d5] 35)) := (by repeat' (first | exact Below.refl _ _ | (with_reducible assumption) | (with_reducible refine Below.alloc ?_ ?_ _) | (with_reducible refine Below.setCell ?_ ?_ _) | (with_reducible refine Below.drew ?_) | (with_reducible refine below_drewN ?_ _) | (refine Below.trans ?_ (Below.mono (by assumption) ?_)) | (with_reducible exact Nat.le_refl _) | (with_reducible assumption) | (exact Below.size (by assumption)) | omega | go_size | (simp at *; omega)))
    have X1 := hid (X1.out.alloc (Obj.cells #[.slice A5 n5 c5, .slice B5 m5 d5] 35))
    have M1 := hid ((M1.out.below hal (Nat.le_refl _)).more hal.size)
    have N1 := hid ((N1.out.below hal (Nat.le_refl _)).more hal.size)
    have X2 := hid (X2.out.alloc (Obj.cells #[.slice A5 n5 c5, .slice B5 m5 d5] 35))
    have M2 := hid ((M2.out.below hal (Nat.le_refl _)).more hal.size)
    have N2 := hid ((N2.out.below hal (Nat.le_refl _)).more hal.size)
    have X3 := hid (X3.out.alloc (Obj.cells #[.slice A5 n5 c5, .slice B5 m5 d5] 35))
    have M3 := hid ((M3.out.below hal (Nat.le_refl _)).more hal.size)
    have N3 := hid ((N3.out.below hal (Nat.le_refl _)).more hal.size)
    have X4 := hid (X4.out.alloc (Obj.cells #[.slice A5 n5 c5, .slice B5 m5 d5] 35))
    have M4 := hid ((M4.out.below hal (Nat.le_refl _)).more hal.size)
    have N4 := hid ((N4.out.below hal (Nat.le_refl _)).more hal.size)
    have HO6 := hid ((HO6.out.below hal (Nat.le_refl _)).more hal.size)
    have HP6 := hid ((HP6.out.below hal (Nat.le_refl _)).more hal.size)
    have X5 := hid (Bx.new w7 35 #[.slice A5 n5 c5, .slice B5 m5 d5])
    have M5 := hid ((HO5.out.below hal (Nat.le_refl _)).more hal.size)
    have N5 := hid ((HP5.out.below hal (Nat.le_refl _)).more hal.size)
    have HB := hid (bchain HB.out hal)
    clear hal
    have hal : Below (w7.alloc (Obj.cells #[.slice A5 n5 c5, .slice B5 m5 d5] 35)).heap.size (w7.alloc (Obj.cells #[.slice A5 n5 c5, .slice B5 m5 d5] 35)) ((w7.alloc (Obj.cells #[.slice A5 n5 c5, .slice B5 m5 d5] 35)).alloc (Obj.cells #[.slice A6 n6 c6, .slice B6 m6 d6] 35)) := (by repeat' (first | exact Below.refl _ _ | (with_reducible assumption) | (with_reducible refine Below.alloc ?_ ?_ _) | (with_reducible refine Below.setCell ?_ ?_ _) | (with_reducible refine Below.drew ?_) | (with_reducible refine below_drewN ?_ _) | (refine Below.trans ?_ (Below.mono (by assumption) ?_)) | (with_reducible exact Nat.le_refl _) | (with_reducible assumption) | (exact Below.size (by assumption)) | omega | go_size | (simp at *; omega)))
    have X1 := hid (X1.out.alloc (Obj.cells #[.slice A6 n6 c6, .slice B6 m6 d6] 35))
    have M1 := hid ((M1.out.below hal (Nat.le_refl _)).more hal.size)
    have N1 := hid ((N1.out.below hal (Nat.le_refl _)).more hal.size)
    have X2 := hid (X2.out.alloc (Obj.cells #[.slice A6 n6 c6, .slice B6 m6 d6] 35))
    have M2 := hid ((M2.out.below hal (Nat.le_refl _)).more hal.size)
    have N2 := hid ((N2.out.below hal (Nat.le_refl _)).more hal.size)
    have X3 := hid (X3.out.alloc (Obj.cells #[.slice A6 n6 c6, .slice B6 m6 d6] 35))
    have M3 := hid ((M3.out.below hal (Nat.le_refl _)).more hal.size)
    have N3 := hid ((N3.out.below hal (Nat.le_refl _)).more hal.size)
    have X4 := hid (X4.out.alloc (Obj.cells #[.slice A6 n6 c6, .slice B6 m6 d6] 35))
    have M4 := hid ((M4.out.below hal (Nat.le_refl _)).more hal.size)
    have N4 := hid ((N4.out.below hal (Nat.le_refl _)).more hal.size)
    have X5 := hid (X5.out.alloc (Obj.cells #[.slice A6 n6 c6, .slice B6 m6 d6] 35))
    have M5 := hid ((M5.out.below hal (Nat.le_refl _)).more hal.size)
    have N5 := hid ((N5.out.below hal (Nat.le_refl _)).more hal.size)
    have X6 := hid (Bx.new (w7.alloc (Obj.cells #[.slice A5 n5 c5, .slice B5 m5 d5] 35)) 35 #[.slice A6 n6 c6, .slice B6 m6 d6])
    have M6 := hid ((HO6.out.below hal (Nat.le_refl _)).more hal.size)
    have N6 := hid ((HP6.out.below hal (Nat.le_refl _)).more hal.size)
    have HB := hid (bchain HB.out hal)
    clear hal
    have hzq : (w7.alloc (Obj.cells #[.slice A5 n5 c5, .slice B5 m5 d5] 35)).heap.size = w7.heap.size + 1 := by simp
    rw [hzq] at X6
    clear hzq
    clear hb7
    clear HO5 HP5 HO6 HP6
    cases one with
    | true =>
      have HRT : Hid (st (rPassingText R) = S) := by
        have h2 : (rReadPassing (tl S)).2 = true := by rw [HR.out]
        have := passing_back _ h2
        rw [HR.out] at this
        show _ = _
        rw [this]; exact st_tl S
      obtain ⟨sb, hsb⟩ : ∃ sb, decide (p5 = p6) = sb := ⟨_, rfl⟩
      have HSB := hid hsb
      clear hsb
      have q9 : (sb == sb) = true := by simp
      go_wp2
      obtain ⟨W, hW⟩ : ∃ W, ((w7.alloc (Obj.cells #[.slice A5 n5 c5, .slice B5 m5 d5] 35)).alloc (Obj.cells #[.slice A6 n6 c6, .slice B6 m6 d6] 35)) = W := ⟨_, rfl⟩
      rw [hW] at HB X1 M1 N1 X2 M2 N2 X3 M3 N3 X4 M4 N4 X5 M5 N5 X6 M6 N6 ⊢
      clear hW
      try clear l1 l2 l3 l4 l5 l6
      try clear x1 y1 x2 y2 x3 y3 x4 y4 x5 y5 x6 y6
      have hS := hid (fun (w9 : World) (b : Below W.heap.size W w9) => (⟨b, (b.cell (p := ⟨w1.heap.size, 0, none⟩) X1.out.lt).trans (bx_p0 X1.out), (b.cell (p := ⟨w1.heap.size, 1, none⟩) X1.out.lt).trans (bx_p1 X1.out), (b.cell (p := ⟨w3.heap.size, 0, none⟩) X2.out.lt).trans (bx_p0 X2.out), (b.cell (p := ⟨w3.heap.size, 1, none⟩) X2.out.lt).trans (bx_p1 X2.out), (b.cell (p := ⟨w5.heap.size, 0, none⟩) X3.out.lt).trans (bx_p0 X3.out), (b.cell (p := ⟨w5.heap.size, 1, none⟩) X3.out.lt).trans (bx_p1 X3.out), (b.cell (p := ⟨w6.heap.size, 0, none⟩) X4.out.lt).trans (bx_p0 X4.out), (b.cell (p := ⟨w6.heap.size, 1, none⟩) X4.out.lt).trans (bx_p1 X4.out), (b.cell (p := ⟨w7.heap.size, 0, none⟩) X5.out.lt).trans (bx_p0 X5.out), (b.cell (p := ⟨w7.heap.size, 1, none⟩) X5.out.lt).trans (bx_p1 X5.out), (b.cell (p := ⟨(w7.heap.size + 1), 0, none⟩) X6.out.lt).trans (bx_p0 X6.out), (b.cell (p := ⟨(w7.heap.size + 1), 1, none⟩) X6.out.lt).trans (bx_p1 X6.out)⟩ : Below W.heap.size W w9 ∧ w9.cell? ⟨w1.heap.size, 0, none⟩ = some (.slice A1 n1 c1) ∧ w9.cell? ⟨w1.heap.size, 1, none⟩ = some (.slice B1 m1 d1) ∧ w9.cell? ⟨w3.heap.size, 0, none⟩ = some (.slice A2 p.1.length c2) ∧ w9.cell? ⟨w3.heap.size, 1, none⟩ = some (.slice B2 p.2.length d2) ∧ w9.cell? ⟨w5.heap.size, 0, none⟩ = some (.slice A3 R.1.length c3) ∧ w9.cell? ⟨w5.heap.size, 1, none⟩ = some (.slice B3 R.2.length d3) ∧ w9.cell? ⟨w6.heap.size, 0, none⟩ = some (.slice A4 R.1.length c4) ∧ w9.cell? ⟨w6.heap.size, 1, none⟩ = some (.slice B4 R.2.length d4) ∧ w9.cell? ⟨w7.heap.size, 0, none⟩ = some (.slice A5 n5 c5) ∧ w9.cell? ⟨w7.heap.size, 1, none⟩ = some (.slice B5 m5 d5) ∧ w9.cell? ⟨(w7.heap.size + 1), 0, none⟩ = some (.slice A6 n6 c6) ∧ w9.cell? ⟨(w7.heap.size + 1), 1, none⟩ = some (.slice B6 m6 d6)))
      have l1 : w1.heap.size < W.heap.size := X1.out.lt
      have x1 : W.cell? ⟨w1.heap.size, 0, none⟩ = some (.slice A1 n1 c1) := bx_p0 X1.out
      have y1 : W.cell? ⟨w1.heap.size, 1, none⟩ = some (.slice B1 m1 d1) := bx_p1 X1.out
      have l2 : w3.heap.size < W.heap.size := X2.out.lt
      have x2 : W.cell? ⟨w3.heap.size, 0, none⟩ = some (.slice A2 p.1.length c2) := bx_p0 X2.out
      have y2 : W.cell? ⟨w3.heap.size, 1, none⟩ = some (.slice B2 p.2.length d2) := bx_p1 X2.out
      have l3 : w5.heap.size < W.heap.size := X3.out.lt
      have x3 : W.cell? ⟨w5.heap.size, 0, none⟩ = some (.slice A3 R.1.length c3) := bx_p0 X3.out
      have y3 : W.cell? ⟨w5.heap.size, 1, none⟩ = some (.slice B3 R.2.length d3) := bx_p1 X3.out
      have l4 : w6.heap.size < W.heap.size := X4.out.lt
      have x4 : W.cell? ⟨w6.heap.size, 0, none⟩ = some (.slice A4 R.1.length c4) := bx_p0 X4.out
      have y4 : W.cell? ⟨w6.heap.size, 1, none⟩ = some (.slice B4 R.2.length d4) := bx_p1 X4.out
      have l5 : w7.heap.size < W.heap.size := X5.out.lt
      have x5 : W.cell? ⟨w7.heap.size, 0, none⟩ = some (.slice A5 n5 c5) := bx_p0 X5.out
      have y5 : W.cell? ⟨w7.heap.size, 1, none⟩ = some (.slice B5 m5 d5) := bx_p1 X5.out
      have l6 : (w7.heap.size + 1) < W.heap.size := X6.out.lt
      have x6 : W.cell? ⟨(w7.heap.size + 1), 0, none⟩ = some (.slice A6 n6 c6) := bx_p0 X6.out
      have y6 : W.cell? ⟨(w7.heap.size + 1), 1, none⟩ = some (.slice B6 m6 d6) := bx_p1 X6.out
      have hT1 : Hid (∀ w9 : World, Below W.heap.size W w9 → Calls Try.prog 23 #[.agg #[.slice A1 n1 c1, .slice B1 m1 d1]] w9 fun e w' => e = .returned (.string t) ∧ Below w9.heap.size w9 w') := by
        refine hid fun w9 b => ?_
        have h := specPassingText_any A1 B1 n1 c1 m1 d1 p w9 (by omega) (by omega) ((M1.out.below b (Nat.le_refl _)).more b.size) ((N1.out.below b (Nat.le_refl _)).more b.size)
        rw [HT.out] at h
        exact h
      have hT2 : Hid (∀ w9 : World, Below W.heap.size W w9 → Calls Try.prog 24 #[.agg #[.slice A2 p.1.length c2, .slice B2 p.2.length d2], .agg #[.slice A1 n1 c1, .slice B1 m1 d1]] w9 fun e w' => e = .returned (.bool true) ∧ Below w9.heap.size w9 w') := by
        refine hid fun w9 b => ?_
        have h := specSamePassing_any A2 B2 A1 B1 p.1.length c2 p.2.length d2 n1 c1 m1 d1 p p w9 (by have := hl1.out; rw [ths_len] at this; omega) (by have := hl2.out; rw [ths_len] at this; omega) (by omega) (by omega) ((M2.out.below b (Nat.le_refl _)).more b.size) ((N2.out.below b (Nat.le_refl _)).more b.size) ((M1.out.below b (Nat.le_refl _)).more b.size) ((N1.out.below b (Nat.le_refl _)).more b.size)
        rw [same_psg] at h
        exact h
      have hT3 : Hid (∀ w9 : World, Below W.heap.size W w9 → Calls Try.prog 24 #[.agg #[.slice A3 R.1.length c3, .slice B3 R.2.length d3], .agg #[.slice A4 R.1.length c4, .slice B4 R.2.length d4]] w9 fun e w' => e = .returned (.bool true) ∧ Below w9.heap.size w9 w') := by
        refine hid fun w9 b => ?_
        have h := specSamePassing_any A3 B3 A4 B4 R.1.length c3 R.2.length d3 R.1.length c4 R.2.length d4 R R w9 (by omega) (by omega) (by omega) (by omega) ((M3.out.below b (Nat.le_refl _)).more b.size) ((N3.out.below b (Nat.le_refl _)).more b.size) ((M4.out.below b (Nat.le_refl _)).more b.size) ((N4.out.below b (Nat.le_refl _)).more b.size)
        rw [same_psg] at h
        exact h
      have hT4 : Hid (∀ w9 : World, Below W.heap.size W w9 → Calls Try.prog 18 #[.agg #[.slice A3 R.1.length c3, .slice B3 R.2.length d3]] w9 fun e w' => e = .returned (.string S) ∧ Below w9.heap.size w9 w') := by
        refine hid fun w9 b => ?_
        have h := PassingText_any A3 B3 R.1.length c3 R.2.length d3 R w9 (by omega) (by omega) ((M3.out.below b (Nat.le_refl _)).more b.size) ((N3.out.below b (Nat.le_refl _)).more b.size)
        rw [HRT.out] at h
        exact h
      have hT5 : Hid (∀ w9 : World, Below W.heap.size W w9 → Calls Try.prog 25 #[.agg #[.slice A5 n5 c5, .slice B5 m5 d5], .agg #[.slice A6 n6 c6, .slice B6 m6 d6]] w9 fun e w' => e = .returned (.bool sb) ∧ Below w9.heap.size w9 w') := by
        refine hid fun w9 b => ?_
        have h := SamePassing_any A5 B5 A6 B6 n5 c5 m5 d5 n6 c6 m6 d6 p5 p6 w9 (by omega) (by omega) (by omega) (by omega) ((M5.out.below b (Nat.le_refl _)).more b.size) ((N5.out.below b (Nat.le_refl _)).more b.size) ((M6.out.below b (Nat.le_refl _)).more b.size) ((N6.out.below b (Nat.le_refl _)).more b.size)
        rw [HSB.out] at h
        exact h
      have hT6 : Hid (∀ w9 : World, Below W.heap.size W w9 → Calls Try.prog 24 #[.agg #[.slice A5 n5 c5, .slice B5 m5 d5], .agg #[.slice A6 n6 c6, .slice B6 m6 d6]] w9 fun e w' => e = .returned (.bool sb) ∧ Below w9.heap.size w9 w') := by
        refine hid fun w9 b => ?_
        have h := specSamePassing_any A5 B5 A6 B6 n5 c5 m5 d5 n6 c6 m6 d6 p5 p6 w9 (by omega) (by omega) (by omega) (by omega) ((M5.out.below b (Nat.le_refl _)).more b.size) ((N5.out.below b (Nat.le_refl _)).more b.size) ((M6.out.below b (Nat.le_refl _)).more b.size) ((N6.out.below b (Nat.le_refl _)).more b.size)
        rw [HSB.out] at h
        exact h
      have hBd : Below W.heap.size W W.drew := (Below.refl _ _).drew
      clear X1 M1 N1 X2 M2 N2 X3 M3 N3 X4 M4 N4 X5 M5 N5 X6 M6 N6
      refine wp_region_noPanic ?_
      refine wp_region_held_drew (S := fun w' => Below W.heap.size W w' ∧ w'.cell? ⟨w1.heap.size, 0, none⟩ = some (.slice A1 n1 c1) ∧ w'.cell? ⟨w1.heap.size, 1, none⟩ = some (.slice B1 m1 d1) ∧ w'.cell? ⟨w3.heap.size, 0, none⟩ = some (.slice A2 p.1.length c2) ∧ w'.cell? ⟨w3.heap.size, 1, none⟩ = some (.slice B2 p.2.length d2) ∧ w'.cell? ⟨w5.heap.size, 0, none⟩ = some (.slice A3 R.1.length c3) ∧ w'.cell? ⟨w5.heap.size, 1, none⟩ = some (.slice B3 R.2.length d3) ∧ w'.cell? ⟨w6.heap.size, 0, none⟩ = some (.slice A4 R.1.length c4) ∧ w'.cell? ⟨w6.heap.size, 1, none⟩ = some (.slice B4 R.2.length d4) ∧ w'.cell? ⟨w7.heap.size, 0, none⟩ = some (.slice A5 n5 c5) ∧ w'.cell? ⟨w7.heap.size, 1, none⟩ = some (.slice B5 m5 d5) ∧ w'.cell? ⟨(w7.heap.size + 1), 0, none⟩ = some (.slice A6 n6 c6) ∧ w'.cell? ⟨(w7.heap.size + 1), 1, none⟩ = some (.slice B6 m6 d6)) (by kernel_rfl) ?_ (fun hHeld => ?_)
      · with_reducible exact hS.out _ hBd
      refine wpAnyH_take (i := 0) (v := ?_) (arr_get at_zero) (by kernel_rfl) (by kernel_rfl) (by kernel_rfl) (fun _ _ _ h => h) (Or.inl ⟨by rfl, ?_⟩) (by assumption) ?_
      rotate_left
      · intro w9 hSw
        try dsimp only at hSw
        go_simp
        all_goals with_reducible rfl
      try simp only [Act.put, List.setIfInBounds_toArray, List.set_cons_zero, List.set_cons_succ]
      refine wpAnyH_take (i := 1) (v := ?_) (arr_get (at_succ at_zero)) (by kernel_rfl) (by kernel_rfl) (by kernel_rfl) (fun _ _ _ h => h) (Or.inl ⟨by rfl, ?_⟩) (by assumption) ?_
      rotate_left
      · intro w9 hSw
        try dsimp only at hSw
        go_simp
        all_goals with_reducible rfl
      try simp only [Act.put, List.setIfInBounds_toArray, List.set_cons_zero, List.set_cons_succ]
      refine wpAnyH_ready (rs := [2]) (by kernel_rfl) (by simp) ?_
      refine AllReadyH.cons (arr_get (at_succ (at_succ at_zero))) (fun K hK => ?_) AllReadyH.nil
      go_simp
      go_at_call 23
      with_reducible refine (hT1.out _ (by assumption)).mono ?_
      rintro e w5 ⟨rfl, hb5⟩
      have hB5 := bchain (show Below W.heap.size W _ by assumption) hb5
      try go_wp2_with fail
      refine hK.out _ _ (by (try dsimp only); with_reducible exact hS.out _ hB5) (fun hHeld => ?_)
      clear hK K
      try simp only [Act.put, List.setIfInBounds_toArray, List.set_cons_zero, List.set_cons_succ]
      refine wpAnyH_take (i := 3) (v := ?_) (arr_get (at_succ (at_succ (at_succ at_zero)))) (by kernel_rfl) (by kernel_rfl) (by kernel_rfl) (fun _ _ _ h => h) (Or.inl ⟨by rfl, ?_⟩) (by assumption) ?_
      rotate_left
      · intro w9 hSw
        try dsimp only at hSw
        go_simp
        all_goals with_reducible rfl
      try simp only [Act.put, List.setIfInBounds_toArray, List.set_cons_zero, List.set_cons_succ]
      refine wpAnyH_take (i := 4) (v := ?_) (arr_get (at_succ (at_succ (at_succ (at_succ at_zero))))) (by kernel_rfl) (by kernel_rfl) (by kernel_rfl) (fun _ _ _ h => h) (Or.inl ⟨by rfl, ?_⟩) (by assumption) ?_
      rotate_left
      · intro w9 hSw
        try dsimp only at hSw
        go_simp
        all_goals with_reducible rfl
      try simp only [Act.put, List.setIfInBounds_toArray, List.set_cons_zero, List.set_cons_succ]
      refine wpAnyH_take (i := 5) (v := ?_) (arr_get (at_succ (at_succ (at_succ (at_succ (at_succ at_zero)))))) (by kernel_rfl) (by kernel_rfl) (by kernel_rfl) (fun _ _ _ h => h) (Or.inl ⟨by rfl, ?_⟩) (by assumption) ?_
      rotate_left
      · intro w9 hSw
        try dsimp only at hSw
        go_simp
        all_goals with_reducible rfl
      try simp only [Act.put, List.setIfInBounds_toArray, List.set_cons_zero, List.set_cons_succ]
      refine wpAnyH_take (i := 6) (v := ?_) (arr_get (at_succ (at_succ (at_succ (at_succ (at_succ (at_succ at_zero))))))) (by kernel_rfl) (by kernel_rfl) (by kernel_rfl) (fun _ _ _ h => h) (Or.inl ⟨by rfl, ?_⟩) (by assumption) ?_
      rotate_left
      · intro w9 hSw
        try dsimp only at hSw
        go_simp
        all_goals with_reducible rfl
      try simp only [Act.put, List.setIfInBounds_toArray, List.set_cons_zero, List.set_cons_succ]
      refine wpAnyH_take (i := 7) (v := ?_) (arr_get (at_succ (at_succ (at_succ (at_succ (at_succ (at_succ (at_succ at_zero)))))))) (by kernel_rfl) (by kernel_rfl) (by kernel_rfl) (fun _ _ _ h => h) (Or.inl ⟨by rfl, ?_⟩) (by assumption) ?_
      rotate_left
      · intro w9 hSw
        try dsimp only at hSw
        go_simp
        all_goals with_reducible rfl
      try simp only [Act.put, List.setIfInBounds_toArray, List.set_cons_zero, List.set_cons_succ]
      refine wpAnyH_take (i := 8) (v := ?_) (arr_get (at_succ (at_succ (at_succ (at_succ (at_succ (at_succ (at_succ (at_succ at_zero))))))))) (by kernel_rfl) (by kernel_rfl) (by kernel_rfl) (fun _ _ _ h => h) (Or.inl ⟨by rfl, ?_⟩) (by assumption) ?_
      rotate_left
      · intro w9 hSw
        try dsimp only at hSw
        go_simp
        all_goals with_reducible rfl
      try simp only [Act.put, List.setIfInBounds_toArray, List.set_cons_zero, List.set_cons_succ]
      refine wpAnyH_take (i := 9) (v := ?_) (arr_get (at_succ (at_succ (at_succ (at_succ (at_succ (at_succ (at_succ (at_succ (at_succ at_zero)))))))))) (by kernel_rfl) (by kernel_rfl) (by kernel_rfl) (fun _ _ _ h => h) (Or.inl ⟨by rfl, ?_⟩) (by assumption) ?_
      rotate_left
      · intro w9 hSw
        try dsimp only at hSw
        go_simp
        all_goals with_reducible rfl
      try simp only [Act.put, List.setIfInBounds_toArray, List.set_cons_zero, List.set_cons_succ]
      refine wpAnyH_take (i := 10) (v := ?_) (arr_get (at_succ (at_succ (at_succ (at_succ (at_succ (at_succ (at_succ (at_succ (at_succ (at_succ at_zero))))))))))) (by kernel_rfl) (by kernel_rfl) (by kernel_rfl) (fun _ _ _ h => h) (Or.inl ⟨by rfl, ?_⟩) (by assumption) ?_
      rotate_left
      · intro w9 hSw
        try dsimp only at hSw
        go_simp
        all_goals with_reducible rfl
      try simp only [Act.put, List.setIfInBounds_toArray, List.set_cons_zero, List.set_cons_succ]
      refine wpAnyH_take (i := 11) (v := ?_) (arr_get (at_succ (at_succ (at_succ (at_succ (at_succ (at_succ (at_succ (at_succ (at_succ (at_succ (at_succ at_zero)))))))))))) (by kernel_rfl) (by kernel_rfl) (by kernel_rfl) (fun _ _ _ h => h) (Or.inl ⟨by rfl, ?_⟩) (by assumption) ?_
      rotate_left
      · intro w9 hSw
        try dsimp only at hSw
        go_simp
        all_goals with_reducible rfl
      try simp only [Act.put, List.setIfInBounds_toArray, List.set_cons_zero, List.set_cons_succ]
      refine wpAnyH_take (i := 12) (v := ?_) (arr_get (at_succ (at_succ (at_succ (at_succ (at_succ (at_succ (at_succ (at_succ (at_succ (at_succ (at_succ (at_succ at_zero))))))))))))) (by kernel_rfl) (by kernel_rfl) (by kernel_rfl) (fun _ _ _ h => h) (Or.inl ⟨by rfl, ?_⟩) (by assumption) ?_
      rotate_left
      · intro w9 hSw
        try dsimp only at hSw
        go_simp
        all_goals with_reducible rfl
      try simp only [Act.put, List.setIfInBounds_toArray, List.set_cons_zero, List.set_cons_succ]
      refine wpAnyH_take (i := 13) (v := ?_) (arr_get (at_succ (at_succ (at_succ (at_succ (at_succ (at_succ (at_succ (at_succ (at_succ (at_succ (at_succ (at_succ (at_succ at_zero)))))))))))))) (by kernel_rfl) (by kernel_rfl) (by kernel_rfl) (fun _ _ _ h => h) (Or.inl ⟨by rfl, ?_⟩) (by assumption) ?_
      rotate_left
      · intro w9 hSw
        try dsimp only at hSw
        go_simp
        all_goals with_reducible rfl
      try simp only [Act.put, List.setIfInBounds_toArray, List.set_cons_zero, List.set_cons_succ]
      refine wpAnyH_take (i := 14) (v := ?_) (arr_get (at_succ (at_succ (at_succ (at_succ (at_succ (at_succ (at_succ (at_succ (at_succ (at_succ (at_succ (at_succ (at_succ (at_succ at_zero))))))))))))))) (by kernel_rfl) (by kernel_rfl) (by kernel_rfl) (fun _ _ _ h => h) (Or.inl ⟨by rfl, ?_⟩) (by assumption) ?_
      rotate_left
      · intro w9 hSw
        try dsimp only at hSw
        go_simp
        all_goals with_reducible rfl
      try simp only [Act.put, List.setIfInBounds_toArray, List.set_cons_zero, List.set_cons_succ]
      refine wpAnyH_take (i := 15) (v := ?_) (arr_get (at_succ (at_succ (at_succ (at_succ (at_succ (at_succ (at_succ (at_succ (at_succ (at_succ (at_succ (at_succ (at_succ (at_succ (at_succ at_zero)))))))))))))))) (by kernel_rfl) (by kernel_rfl) (by kernel_rfl) (fun _ _ _ h => h) (Or.inl ⟨by rfl, ?_⟩) (by assumption) ?_
      rotate_left
      · intro w9 hSw
        try dsimp only at hSw
        go_simp
        all_goals with_reducible rfl
      try simp only [Act.put, List.setIfInBounds_toArray, List.set_cons_zero, List.set_cons_succ]
      refine wpAnyH_ready (rs := [16]) (by kernel_rfl) (by simp) ?_
      refine AllReadyH.cons (arr_get (at_succ (at_succ (at_succ (at_succ (at_succ (at_succ (at_succ (at_succ (at_succ (at_succ (at_succ (at_succ (at_succ (at_succ (at_succ (at_succ at_zero))))))))))))))))) (fun K hK => ?_) AllReadyH.nil
      go_simp
      go_at_call 24
      with_reducible refine (hT2.out _ (by assumption)).mono ?_
      rintro e w5 ⟨rfl, hb5⟩
      have hB5 := bchain (show Below W.heap.size W _ by assumption) hb5
      try go_wp2_with fail
      refine hK.out _ _ (by (try dsimp only); with_reducible exact hS.out _ hB5) (fun hHeld => ?_)
      clear hK K
      try simp only [Act.put, List.setIfInBounds_toArray, List.set_cons_zero, List.set_cons_succ]
      refine wpAnyH_take (i := 17) (v := ?_) (arr_get (at_succ (at_succ (at_succ (at_succ (at_succ (at_succ (at_succ (at_succ (at_succ (at_succ (at_succ (at_succ (at_succ (at_succ (at_succ (at_succ (at_succ at_zero)))))))))))))))))) (by kernel_rfl) (by kernel_rfl) (by kernel_rfl) (fun _ _ _ h => h) (Or.inl ⟨by rfl, ?_⟩) (by assumption) ?_
      rotate_left
      · intro w9 hSw
        try dsimp only at hSw
        go_simp
        all_goals with_reducible rfl
      try simp only [Act.put, List.setIfInBounds_toArray, List.set_cons_zero, List.set_cons_succ]
      refine wpAnyH_take (i := 18) (v := ?_) (arr_get (at_succ (at_succ (at_succ (at_succ (at_succ (at_succ (at_succ (at_succ (at_succ (at_succ (at_succ (at_succ (at_succ (at_succ (at_succ (at_succ (at_succ (at_succ at_zero))))))))))))))))))) (by kernel_rfl) (by kernel_rfl) (by kernel_rfl) (fun _ _ _ h => h) (Or.inl ⟨by rfl, ?_⟩) (by assumption) ?_
      rotate_left
      · intro w9 hSw
        try dsimp only at hSw
        go_simp
        all_goals with_reducible rfl
      try simp only [Act.put, List.setIfInBounds_toArray, List.set_cons_zero, List.set_cons_succ]
      refine wpAnyH_take (i := 19) (v := ?_) (arr_get (at_succ (at_succ (at_succ (at_succ (at_succ (at_succ (at_succ (at_succ (at_succ (at_succ (at_succ (at_succ (at_succ (at_succ (at_succ (at_succ (at_succ (at_succ (at_succ at_zero)))))))))))))))))))) (by kernel_rfl) (by kernel_rfl) (by kernel_rfl) (fun _ _ _ h => h) (Or.inl ⟨by rfl, ?_⟩) (by assumption) ?_
      rotate_left
      · intro w9 hSw
        try dsimp only at hSw
        go_simp
        all_goals with_reducible rfl
      try simp only [Act.put, List.setIfInBounds_toArray, List.set_cons_zero, List.set_cons_succ]
      refine wpAnyH_take (i := 20) (v := ?_) (arr_get (at_succ (at_succ (at_succ (at_succ (at_succ (at_succ (at_succ (at_succ (at_succ (at_succ (at_succ (at_succ (at_succ (at_succ (at_succ (at_succ (at_succ (at_succ (at_succ (at_succ at_zero))))))))))))))))))))) (by kernel_rfl) (by kernel_rfl) (by kernel_rfl) (fun _ _ _ h => h) (Or.inl ⟨by rfl, ?_⟩) (by assumption) ?_
      rotate_left
      · intro w9 hSw
        try dsimp only at hSw
        go_simp
        all_goals with_reducible rfl
      try simp only [Act.put, List.setIfInBounds_toArray, List.set_cons_zero, List.set_cons_succ]
      refine wpAnyH_take (i := 21) (v := ?_) (arr_get (at_succ (at_succ (at_succ (at_succ (at_succ (at_succ (at_succ (at_succ (at_succ (at_succ (at_succ (at_succ (at_succ (at_succ (at_succ (at_succ (at_succ (at_succ (at_succ (at_succ (at_succ at_zero)))))))))))))))))))))) (by kernel_rfl) (by kernel_rfl) (by kernel_rfl) (fun _ _ _ h => h) (Or.inl ⟨by rfl, ?_⟩) (by assumption) ?_
      rotate_left
      · intro w9 hSw
        try dsimp only at hSw
        go_simp
        all_goals with_reducible rfl
      try simp only [Act.put, List.setIfInBounds_toArray, List.set_cons_zero, List.set_cons_succ]
      refine wpAnyH_take (i := 22) (v := ?_) (arr_get (at_succ (at_succ (at_succ (at_succ (at_succ (at_succ (at_succ (at_succ (at_succ (at_succ (at_succ (at_succ (at_succ (at_succ (at_succ (at_succ (at_succ (at_succ (at_succ (at_succ (at_succ (at_succ at_zero))))))))))))))))))))))) (by kernel_rfl) (by kernel_rfl) (by kernel_rfl) (fun _ _ _ h => h) (Or.inl ⟨by rfl, ?_⟩) (by assumption) ?_
      rotate_left
      · intro w9 hSw
        try dsimp only at hSw
        go_simp
        all_goals with_reducible rfl
      try simp only [Act.put, List.setIfInBounds_toArray, List.set_cons_zero, List.set_cons_succ]
      refine wpAnyH_take (i := 23) (v := ?_) (arr_get (at_succ (at_succ (at_succ (at_succ (at_succ (at_succ (at_succ (at_succ (at_succ (at_succ (at_succ (at_succ (at_succ (at_succ (at_succ (at_succ (at_succ (at_succ (at_succ (at_succ (at_succ (at_succ (at_succ at_zero)))))))))))))))))))))))) (by kernel_rfl) (by kernel_rfl) (by kernel_rfl) (fun _ _ _ h => h) (Or.inl ⟨by rfl, ?_⟩) (by assumption) ?_
      rotate_left
      · intro w9 hSw
        try dsimp only at hSw
        go_simp
        all_goals with_reducible rfl
      try simp only [Act.put, List.setIfInBounds_toArray, List.set_cons_zero, List.set_cons_succ]
      refine wpAnyH_take (i := 24) (v := ?_) (arr_get (at_succ (at_succ (at_succ (at_succ (at_succ (at_succ (at_succ (at_succ (at_succ (at_succ (at_succ (at_succ (at_succ (at_succ (at_succ (at_succ (at_succ (at_succ (at_succ (at_succ (at_succ (at_succ (at_succ (at_succ at_zero))))))))))))))))))))))))) (by kernel_rfl) (by kernel_rfl) (by kernel_rfl) (fun _ _ _ h => h) (Or.inl ⟨by rfl, ?_⟩) (by assumption) ?_
      rotate_left
      · intro w9 hSw
        try dsimp only at hSw
        go_simp
        all_goals with_reducible rfl
      try simp only [Act.put, List.setIfInBounds_toArray, List.set_cons_zero, List.set_cons_succ]
      refine wpAnyH_take (i := 25) (v := ?_) (arr_get (at_succ (at_succ (at_succ (at_succ (at_succ (at_succ (at_succ (at_succ (at_succ (at_succ (at_succ (at_succ (at_succ (at_succ (at_succ (at_succ (at_succ (at_succ (at_succ (at_succ (at_succ (at_succ (at_succ (at_succ (at_succ at_zero)))))))))))))))))))))))))) (by kernel_rfl) (by kernel_rfl) (by kernel_rfl) (fun _ _ _ h => h) (Or.inl ⟨by rfl, ?_⟩) (by assumption) ?_
      rotate_left
      · intro w9 hSw
        try dsimp only at hSw
        go_simp
        all_goals with_reducible rfl
      try simp only [Act.put, List.setIfInBounds_toArray, List.set_cons_zero, List.set_cons_succ]
      refine wpAnyH_take (i := 26) (v := ?_) (arr_get (at_succ (at_succ (at_succ (at_succ (at_succ (at_succ (at_succ (at_succ (at_succ (at_succ (at_succ (at_succ (at_succ (at_succ (at_succ (at_succ (at_succ (at_succ (at_succ (at_succ (at_succ (at_succ (at_succ (at_succ (at_succ (at_succ at_zero))))))))))))))))))))))))))) (by kernel_rfl) (by kernel_rfl) (by kernel_rfl) (fun _ _ _ h => h) (Or.inl ⟨by rfl, ?_⟩) (by assumption) ?_
      rotate_left
      · intro w9 hSw
        try dsimp only at hSw
        go_simp
        all_goals with_reducible rfl
      try simp only [Act.put, List.setIfInBounds_toArray, List.set_cons_zero, List.set_cons_succ]
      refine wpAnyH_ready (rs := [27]) (by kernel_rfl) (by simp) ?_
      refine AllReadyH.cons (arr_get (at_succ (at_succ (at_succ (at_succ (at_succ (at_succ (at_succ (at_succ (at_succ (at_succ (at_succ (at_succ (at_succ (at_succ (at_succ (at_succ (at_succ (at_succ (at_succ (at_succ (at_succ (at_succ (at_succ (at_succ (at_succ (at_succ (at_succ at_zero)))))))))))))))))))))))))))) (fun K hK => ?_) AllReadyH.nil
      go_simp
      go_at_call 24
      with_reducible refine (hT3.out _ (by assumption)).mono ?_
      rintro e w5 ⟨rfl, hb5⟩
      have hB5 := bchain (show Below W.heap.size W _ by assumption) hb5
      try go_wp2_with fail
      refine hK.out _ _ (by (try dsimp only); with_reducible exact hS.out _ hB5) (fun hHeld => ?_)
      clear hK K
      try simp only [Act.put, List.setIfInBounds_toArray, List.set_cons_zero, List.set_cons_succ]
      refine wpAnyH_take (i := 28) (v := ?_) (arr_get (at_succ (at_succ (at_succ (at_succ (at_succ (at_succ (at_succ (at_succ (at_succ (at_succ (at_succ (at_succ (at_succ (at_succ (at_succ (at_succ (at_succ (at_succ (at_succ (at_succ (at_succ (at_succ (at_succ (at_succ (at_succ (at_succ (at_succ (at_succ at_zero))))))))))))))))))))))))))))) (by kernel_rfl) (by kernel_rfl) (by kernel_rfl) (fun _ _ _ h => h) (Or.inl ⟨by rfl, ?_⟩) (by assumption) ?_
      rotate_left
      · intro w9 hSw
        try dsimp only at hSw
        go_simp
        all_goals with_reducible rfl
      try simp only [Act.put, List.setIfInBounds_toArray, List.set_cons_zero, List.set_cons_succ]
      refine wpAnyH_take (i := 29) (v := ?_) (arr_get (at_succ (at_succ (at_succ (at_succ (at_succ (at_succ (at_succ (at_succ (at_succ (at_succ (at_succ (at_succ (at_succ (at_succ (at_succ (at_succ (at_succ (at_succ (at_succ (at_succ (at_succ (at_succ (at_succ (at_succ (at_succ (at_succ (at_succ (at_succ (at_succ at_zero)))))))))))))))))))))))))))))) (by kernel_rfl) (by kernel_rfl) (by kernel_rfl) (fun _ _ _ h => h) (Or.inl ⟨by rfl, ?_⟩) (by assumption) ?_
      rotate_left
      · intro w9 hSw
        try dsimp only at hSw
        go_simp
        all_goals with_reducible rfl
      try simp only [Act.put, List.setIfInBounds_toArray, List.set_cons_zero, List.set_cons_succ]
      refine wpAnyH_take (i := 30) (v := ?_) (arr_get (at_succ (at_succ (at_succ (at_succ (at_succ (at_succ (at_succ (at_succ (at_succ (at_succ (at_succ (at_succ (at_succ (at_succ (at_succ (at_succ (at_succ (at_succ (at_succ (at_succ (at_succ (at_succ (at_succ (at_succ (at_succ (at_succ (at_succ (at_succ (at_succ (at_succ at_zero))))))))))))))))))))))))))))))) (by kernel_rfl) (by kernel_rfl) (by kernel_rfl) (fun _ _ _ h => h) (Or.inl ⟨by rfl, ?_⟩) (by assumption) ?_
      rotate_left
      · intro w9 hSw
        try dsimp only at hSw
        go_simp
        all_goals with_reducible rfl
      try simp only [Act.put, List.setIfInBounds_toArray, List.set_cons_zero, List.set_cons_succ]
      refine wpAnyH_take (i := 31) (v := ?_) (arr_get (at_succ (at_succ (at_succ (at_succ (at_succ (at_succ (at_succ (at_succ (at_succ (at_succ (at_succ (at_succ (at_succ (at_succ (at_succ (at_succ (at_succ (at_succ (at_succ (at_succ (at_succ (at_succ (at_succ (at_succ (at_succ (at_succ (at_succ (at_succ (at_succ (at_succ (at_succ at_zero)))))))))))))))))))))))))))))))) (by kernel_rfl) (by kernel_rfl) (by kernel_rfl) (fun _ _ _ h => h) (Or.inl ⟨by rfl, ?_⟩) (by assumption) ?_
      rotate_left
      · intro w9 hSw
        try dsimp only at hSw
        go_simp
        all_goals with_reducible rfl
      try simp only [Act.put, List.setIfInBounds_toArray, List.set_cons_zero, List.set_cons_succ]
      refine wpAnyH_take (i := 32) (v := ?_) (arr_get (at_succ (at_succ (at_succ (at_succ (at_succ (at_succ (at_succ (at_succ (at_succ (at_succ (at_succ (at_succ (at_succ (at_succ (at_succ (at_succ (at_succ (at_succ (at_succ (at_succ (at_succ (at_succ (at_succ (at_succ (at_succ (at_succ (at_succ (at_succ (at_succ (at_succ (at_succ (at_succ at_zero))))))))))))))))))))))))))))))))) (by kernel_rfl) (by kernel_rfl) (by kernel_rfl) (fun _ _ _ h => h) (Or.inl ⟨by rfl, ?_⟩) (by assumption) ?_
      rotate_left
      · intro w9 hSw
        try dsimp only at hSw
        go_simp
        all_goals with_reducible rfl
      try simp only [Act.put, List.setIfInBounds_toArray, List.set_cons_zero, List.set_cons_succ]
      refine wpAnyH_take (i := 33) (v := ?_) (arr_get (at_succ (at_succ (at_succ (at_succ (at_succ (at_succ (at_succ (at_succ (at_succ (at_succ (at_succ (at_succ (at_succ (at_succ (at_succ (at_succ (at_succ (at_succ (at_succ (at_succ (at_succ (at_succ (at_succ (at_succ (at_succ (at_succ (at_succ (at_succ (at_succ (at_succ (at_succ (at_succ (at_succ at_zero)))))))))))))))))))))))))))))))))) (by kernel_rfl) (by kernel_rfl) (by kernel_rfl) (fun _ _ _ h => h) (Or.inl ⟨by rfl, ?_⟩) (by assumption) ?_
      rotate_left
      · intro w9 hSw
        try dsimp only at hSw
        go_simp
        all_goals with_reducible rfl
      try simp only [Act.put, List.setIfInBounds_toArray, List.set_cons_zero, List.set_cons_succ]
      refine wpAnyH_take (i := 35) (v := ?_) (arr_get (at_succ (at_succ (at_succ (at_succ (at_succ (at_succ (at_succ (at_succ (at_succ (at_succ (at_succ (at_succ (at_succ (at_succ (at_succ (at_succ (at_succ (at_succ (at_succ (at_succ (at_succ (at_succ (at_succ (at_succ (at_succ (at_succ (at_succ (at_succ (at_succ (at_succ (at_succ (at_succ (at_succ (at_succ (at_succ at_zero)))))))))))))))))))))))))))))))))))) (by kernel_rfl) (by kernel_rfl) (by kernel_rfl) (fun _ _ _ h => h) (Or.inl ⟨by rfl, ?_⟩) (by assumption) ?_
      rotate_left
      · intro w9 hSw
        try dsimp only at hSw
        go_simp
        all_goals with_reducible rfl
      try simp only [Act.put, List.setIfInBounds_toArray, List.set_cons_zero, List.set_cons_succ]
      refine wpAnyH_ready (rs := [34]) (by kernel_rfl) (by simp) ?_
      refine AllReadyH.cons (arr_get (at_succ (at_succ (at_succ (at_succ (at_succ (at_succ (at_succ (at_succ (at_succ (at_succ (at_succ (at_succ (at_succ (at_succ (at_succ (at_succ (at_succ (at_succ (at_succ (at_succ (at_succ (at_succ (at_succ (at_succ (at_succ (at_succ (at_succ (at_succ (at_succ (at_succ (at_succ (at_succ (at_succ (at_succ at_zero))))))))))))))))))))))))))))))))))) (fun K hK => ?_) AllReadyH.nil
      go_simp
      go_at_call 18
      with_reducible refine (hT4.out _ (by assumption)).mono ?_
      rintro e w5 ⟨rfl, hb5⟩
      have hB5 := bchain (show Below W.heap.size W _ by assumption) hb5
      try go_wp2_with fail
      refine hK.out _ _ (by (try dsimp only); with_reducible exact hS.out _ hB5) (fun hHeld => ?_)
      clear hK K
      try simp only [Act.put, List.setIfInBounds_toArray, List.set_cons_zero, List.set_cons_succ]
      refine wpAnyH_take (i := 36) (v := ?_) (arr_get (at_succ (at_succ (at_succ (at_succ (at_succ (at_succ (at_succ (at_succ (at_succ (at_succ (at_succ (at_succ (at_succ (at_succ (at_succ (at_succ (at_succ (at_succ (at_succ (at_succ (at_succ (at_succ (at_succ (at_succ (at_succ (at_succ (at_succ (at_succ (at_succ (at_succ (at_succ (at_succ (at_succ (at_succ (at_succ (at_succ at_zero))))))))))))))))))))))))))))))))))))) (by kernel_rfl) (by kernel_rfl) (by kernel_rfl) (fun _ _ _ h => h) (Or.inl ⟨by rfl, ?_⟩) (by assumption) ?_
      rotate_left
      · intro w9 hSw
        try dsimp only at hSw
        go_simp
        all_goals with_reducible rfl
      try simp only [Act.put, List.setIfInBounds_toArray, List.set_cons_zero, List.set_cons_succ]
      refine wpAnyH_take (i := 37) (v := ?_) (arr_get (at_succ (at_succ (at_succ (at_succ (at_succ (at_succ (at_succ (at_succ (at_succ (at_succ (at_succ (at_succ (at_succ (at_succ (at_succ (at_succ (at_succ (at_succ (at_succ (at_succ (at_succ (at_succ (at_succ (at_succ (at_succ (at_succ (at_succ (at_succ (at_succ (at_succ (at_succ (at_succ (at_succ (at_succ (at_succ (at_succ (at_succ at_zero)))))))))))))))))))))))))))))))))))))) (by kernel_rfl) (by kernel_rfl) (by kernel_rfl) (fun _ _ _ h => h) (Or.inl ⟨by rfl, ?_⟩) (by assumption) ?_
      rotate_left
      · intro w9 hSw
        try dsimp only at hSw
        go_simp
        all_goals with_reducible rfl
      try simp only [Act.put, List.setIfInBounds_toArray, List.set_cons_zero, List.set_cons_succ]
      refine wpAnyH_take (i := 38) (v := ?_) (arr_get (at_succ (at_succ (at_succ (at_succ (at_succ (at_succ (at_succ (at_succ (at_succ (at_succ (at_succ (at_succ (at_succ (at_succ (at_succ (at_succ (at_succ (at_succ (at_succ (at_succ (at_succ (at_succ (at_succ (at_succ (at_succ (at_succ (at_succ (at_succ (at_succ (at_succ (at_succ (at_succ (at_succ (at_succ (at_succ (at_succ (at_succ (at_succ at_zero))))))))))))))))))))))))))))))))))))))) (by kernel_rfl) (by kernel_rfl) (by kernel_rfl) (fun _ _ _ h => h) (Or.inl ⟨by rfl, ?_⟩) (by assumption) ?_
      rotate_left
      · intro w9 hSw
        try dsimp only at hSw
        go_simp
        all_goals with_reducible rfl
      try simp only [Act.put, List.setIfInBounds_toArray, List.set_cons_zero, List.set_cons_succ]
      refine wpAnyH_take (i := 39) (v := ?_) (arr_get (at_succ (at_succ (at_succ (at_succ (at_succ (at_succ (at_succ (at_succ (at_succ (at_succ (at_succ (at_succ (at_succ (at_succ (at_succ (at_succ (at_succ (at_succ (at_succ (at_succ (at_succ (at_succ (at_succ (at_succ (at_succ (at_succ (at_succ (at_succ (at_succ (at_succ (at_succ (at_succ (at_succ (at_succ (at_succ (at_succ (at_succ (at_succ (at_succ at_zero)))))))))))))))))))))))))))))))))))))))) (by kernel_rfl) (by kernel_rfl) (by kernel_rfl) (fun _ _ _ h => h) (Or.inl ⟨by rfl, ?_⟩) (by assumption) ?_
      rotate_left
      · intro w9 hSw
        try dsimp only at hSw
        go_simp
        all_goals with_reducible rfl
      try simp only [Act.put, List.setIfInBounds_toArray, List.set_cons_zero, List.set_cons_succ]
      refine wpAnyH_take (i := 40) (v := ?_) (arr_get (at_succ (at_succ (at_succ (at_succ (at_succ (at_succ (at_succ (at_succ (at_succ (at_succ (at_succ (at_succ (at_succ (at_succ (at_succ (at_succ (at_succ (at_succ (at_succ (at_succ (at_succ (at_succ (at_succ (at_succ (at_succ (at_succ (at_succ (at_succ (at_succ (at_succ (at_succ (at_succ (at_succ (at_succ (at_succ (at_succ (at_succ (at_succ (at_succ (at_succ at_zero))))))))))))))))))))))))))))))))))))))))) (by kernel_rfl) (by kernel_rfl) (by kernel_rfl) (fun _ _ _ h => h) (Or.inl ⟨by rfl, ?_⟩) (by assumption) ?_
      rotate_left
      · intro w9 hSw
        try dsimp only at hSw
        go_simp
        all_goals with_reducible rfl
      try simp only [Act.put, List.setIfInBounds_toArray, List.set_cons_zero, List.set_cons_succ]
      refine wpAnyH_take (i := 41) (v := ?_) (arr_get (at_succ (at_succ (at_succ (at_succ (at_succ (at_succ (at_succ (at_succ (at_succ (at_succ (at_succ (at_succ (at_succ (at_succ (at_succ (at_succ (at_succ (at_succ (at_succ (at_succ (at_succ (at_succ (at_succ (at_succ (at_succ (at_succ (at_succ (at_succ (at_succ (at_succ (at_succ (at_succ (at_succ (at_succ (at_succ (at_succ (at_succ (at_succ (at_succ (at_succ (at_succ at_zero)))))))))))))))))))))))))))))))))))))))))) (by kernel_rfl) (by kernel_rfl) (by kernel_rfl) (fun _ _ _ h => h) (Or.inl ⟨by rfl, ?_⟩) (by assumption) ?_
      rotate_left
      · intro w9 hSw
        try dsimp only at hSw
        go_simp
        all_goals with_reducible rfl
      try simp only [Act.put, List.setIfInBounds_toArray, List.set_cons_zero, List.set_cons_succ]
      refine wpAnyH_take (i := 43) (v := ?_) (arr_get (at_succ (at_succ (at_succ (at_succ (at_succ (at_succ (at_succ (at_succ (at_succ (at_succ (at_succ (at_succ (at_succ (at_succ (at_succ (at_succ (at_succ (at_succ (at_succ (at_succ (at_succ (at_succ (at_succ (at_succ (at_succ (at_succ (at_succ (at_succ (at_succ (at_succ (at_succ (at_succ (at_succ (at_succ (at_succ (at_succ (at_succ (at_succ (at_succ (at_succ (at_succ (at_succ (at_succ at_zero)))))))))))))))))))))))))))))))))))))))))))) (by kernel_rfl) (by kernel_rfl) (by kernel_rfl) (fun _ _ _ h => h) (Or.inl ⟨by rfl, ?_⟩) (by assumption) ?_
      rotate_left
      · intro w9 hSw
        try dsimp only at hSw
        go_simp
        all_goals with_reducible rfl
      try simp only [Act.put, List.setIfInBounds_toArray, List.set_cons_zero, List.set_cons_succ]
      refine wpAnyH_take (i := 44) (v := ?_) (arr_get (at_succ (at_succ (at_succ (at_succ (at_succ (at_succ (at_succ (at_succ (at_succ (at_succ (at_succ (at_succ (at_succ (at_succ (at_succ (at_succ (at_succ (at_succ (at_succ (at_succ (at_succ (at_succ (at_succ (at_succ (at_succ (at_succ (at_succ (at_succ (at_succ (at_succ (at_succ (at_succ (at_succ (at_succ (at_succ (at_succ (at_succ (at_succ (at_succ (at_succ (at_succ (at_succ (at_succ (at_succ at_zero))))))))))))))))))))))))))))))))))))))))))))) (by kernel_rfl) (by kernel_rfl) (by kernel_rfl) (fun _ _ _ h => h) (Or.inl ⟨by rfl, ?_⟩) (by assumption) ?_
      rotate_left
      · intro w9 hSw
        try dsimp only at hSw
        go_simp
        all_goals with_reducible rfl
      try simp only [Act.put, List.setIfInBounds_toArray, List.set_cons_zero, List.set_cons_succ]
      refine wpAnyH_ready (rs := [42]) (by kernel_rfl) (by simp) ?_
      refine AllReadyH.cons (arr_get (at_succ (at_succ (at_succ (at_succ (at_succ (at_succ (at_succ (at_succ (at_succ (at_succ (at_succ (at_succ (at_succ (at_succ (at_succ (at_succ (at_succ (at_succ (at_succ (at_succ (at_succ (at_succ (at_succ (at_succ (at_succ (at_succ (at_succ (at_succ (at_succ (at_succ (at_succ (at_succ (at_succ (at_succ (at_succ (at_succ (at_succ (at_succ (at_succ (at_succ (at_succ (at_succ at_zero))))))))))))))))))))))))))))))))))))))))))) (fun K hK => ?_) AllReadyH.nil
      go_simp
      go_at_call 25
      with_reducible refine (hT5.out _ (by assumption)).mono ?_
      rintro e w5 ⟨rfl, hb5⟩
      have hB5 := bchain (show Below W.heap.size W _ by assumption) hb5
      try go_wp2_with fail
      refine hK.out _ _ (by (try dsimp only); with_reducible exact hS.out _ hB5) (fun hHeld => ?_)
      clear hK K
      try simp only [Act.put, List.setIfInBounds_toArray, List.set_cons_zero, List.set_cons_succ]
      refine wpAnyH_ready (rs := [45]) (by kernel_rfl) (by simp) ?_
      refine AllReadyH.cons (arr_get (at_succ (at_succ (at_succ (at_succ (at_succ (at_succ (at_succ (at_succ (at_succ (at_succ (at_succ (at_succ (at_succ (at_succ (at_succ (at_succ (at_succ (at_succ (at_succ (at_succ (at_succ (at_succ (at_succ (at_succ (at_succ (at_succ (at_succ (at_succ (at_succ (at_succ (at_succ (at_succ (at_succ (at_succ (at_succ (at_succ (at_succ (at_succ (at_succ (at_succ (at_succ (at_succ (at_succ (at_succ (at_succ at_zero)))))))))))))))))))))))))))))))))))))))))))))) (fun K hK => ?_) AllReadyH.nil
      go_simp
      go_at_call 24
      with_reducible refine (hT6.out _ (by assumption)).mono ?_
      rintro e w5 ⟨rfl, hb5⟩
      have hB5 := bchain (show Below W.heap.size W _ by assumption) hb5
      try go_wp2_with fail
      refine hK.out _ _ (by (try dsimp only); with_reducible exact hS.out _ hB5) (fun hHeld => ?_)
      clear hK K
      try simp only [Act.put, List.setIfInBounds_toArray, List.set_cons_zero, List.set_cons_succ]
      refine wpAnyH_take (i := 46) (v := ?_) (arr_get (at_succ (at_succ (at_succ (at_succ (at_succ (at_succ (at_succ (at_succ (at_succ (at_succ (at_succ (at_succ (at_succ (at_succ (at_succ (at_succ (at_succ (at_succ (at_succ (at_succ (at_succ (at_succ (at_succ (at_succ (at_succ (at_succ (at_succ (at_succ (at_succ (at_succ (at_succ (at_succ (at_succ (at_succ (at_succ (at_succ (at_succ (at_succ (at_succ (at_succ (at_succ (at_succ (at_succ (at_succ (at_succ (at_succ at_zero))))))))))))))))))))))))))))))))))))))))))))))) (by kernel_rfl) (by kernel_rfl) (by kernel_rfl) (fun _ _ _ h => h) (Or.inl ⟨by rfl, ?_⟩) (by assumption) ?_
      rotate_left
      · intro w9 hSw
        try dsimp only at hSw
        go_simp
        all_goals with_reducible rfl
      try simp only [Act.put, List.setIfInBounds_toArray, List.set_cons_zero, List.set_cons_succ]
      refine wpAnyH_take (i := 47) (v := ?_) (arr_get (at_succ (at_succ (at_succ (at_succ (at_succ (at_succ (at_succ (at_succ (at_succ (at_succ (at_succ (at_succ (at_succ (at_succ (at_succ (at_succ (at_succ (at_succ (at_succ (at_succ (at_succ (at_succ (at_succ (at_succ (at_succ (at_succ (at_succ (at_succ (at_succ (at_succ (at_succ (at_succ (at_succ (at_succ (at_succ (at_succ (at_succ (at_succ (at_succ (at_succ (at_succ (at_succ (at_succ (at_succ (at_succ (at_succ (at_succ at_zero)))))))))))))))))))))))))))))))))))))))))))))))) (by kernel_rfl) (by kernel_rfl) (by kernel_rfl) (fun _ _ _ h => h) (Or.inl ⟨by rfl, ?_⟩) (by assumption) ?_
      rotate_left
      · intro w9 hSw
        try dsimp only at hSw
        go_simp
        all_goals with_reducible rfl
      try simp only [Act.put, List.setIfInBounds_toArray, List.set_cons_zero, List.set_cons_succ]
      refine wpAnyH_take (i := 48) (v := ?_) (arr_get (at_succ (at_succ (at_succ (at_succ (at_succ (at_succ (at_succ (at_succ (at_succ (at_succ (at_succ (at_succ (at_succ (at_succ (at_succ (at_succ (at_succ (at_succ (at_succ (at_succ (at_succ (at_succ (at_succ (at_succ (at_succ (at_succ (at_succ (at_succ (at_succ (at_succ (at_succ (at_succ (at_succ (at_succ (at_succ (at_succ (at_succ (at_succ (at_succ (at_succ (at_succ (at_succ (at_succ (at_succ (at_succ (at_succ (at_succ (at_succ at_zero))))))))))))))))))))))))))))))))))))))))))))))))) (by kernel_rfl) (by kernel_rfl) (by kernel_rfl) (fun _ _ _ h => h) (Or.inl ⟨by rfl, ?_⟩) (by assumption) ?_
      rotate_left
      · intro w9 hSw
        try dsimp only at hSw
        go_simp
        all_goals with_reducible rfl
      try simp only [Act.put, List.setIfInBounds_toArray, List.set_cons_zero, List.set_cons_succ]
      refine wpAnyH_done (by kernel_rfl) ?_ _
      refine NoPanic.normal ?_
      go_wp2
      go_ret
      exact ⟨by first | rfl | (simp; done), bchain HB.out (by assumption)⟩
    | false =>
      obtain ⟨sb, hsb⟩ : ∃ sb, decide (p5 = p6) = sb := ⟨_, rfl⟩
      have HSB := hid hsb
      clear hsb
      have q9 : (sb == sb) = true := by simp
      go_wp2
      obtain ⟨W, hW⟩ : ∃ W, ((w7.alloc (Obj.cells #[.slice A5 n5 c5, .slice B5 m5 d5] 35)).alloc (Obj.cells #[.slice A6 n6 c6, .slice B6 m6 d6] 35)) = W := ⟨_, rfl⟩
      rw [hW] at HB X1 M1 N1 X2 M2 N2 X3 M3 N3 X4 M4 N4 X5 M5 N5 X6 M6 N6 ⊢
      clear hW
      try clear l1 l2 l3 l4 l5 l6
      try clear x1 y1 x2 y2 x3 y3 x4 y4 x5 y5 x6 y6
      have hS := hid (fun (w9 : World) (b : Below W.heap.size W w9) => (⟨b, (b.cell (p := ⟨w1.heap.size, 0, none⟩) X1.out.lt).trans (bx_p0 X1.out), (b.cell (p := ⟨w1.heap.size, 1, none⟩) X1.out.lt).trans (bx_p1 X1.out), (b.cell (p := ⟨w3.heap.size, 0, none⟩) X2.out.lt).trans (bx_p0 X2.out), (b.cell (p := ⟨w3.heap.size, 1, none⟩) X2.out.lt).trans (bx_p1 X2.out), (b.cell (p := ⟨w5.heap.size, 0, none⟩) X3.out.lt).trans (bx_p0 X3.out), (b.cell (p := ⟨w5.heap.size, 1, none⟩) X3.out.lt).trans (bx_p1 X3.out), (b.cell (p := ⟨w6.heap.size, 0, none⟩) X4.out.lt).trans (bx_p0 X4.out), (b.cell (p := ⟨w6.heap.size, 1, none⟩) X4.out.lt).trans (bx_p1 X4.out), (b.cell (p := ⟨w7.heap.size, 0, none⟩) X5.out.lt).trans (bx_p0 X5.out), (b.cell (p := ⟨w7.heap.size, 1, none⟩) X5.out.lt).trans (bx_p1 X5.out), (b.cell (p := ⟨(w7.heap.size + 1), 0, none⟩) X6.out.lt).trans (bx_p0 X6.out), (b.cell (p := ⟨(w7.heap.size + 1), 1, none⟩) X6.out.lt).trans (bx_p1 X6.out)⟩ : Below W.heap.size W w9 ∧ w9.cell? ⟨w1.heap.size, 0, none⟩ = some (.slice A1 n1 c1) ∧ w9.cell? ⟨w1.heap.size, 1, none⟩ = some (.slice B1 m1 d1) ∧ w9.cell? ⟨w3.heap.size, 0, none⟩ = some (.slice A2 p.1.length c2) ∧ w9.cell? ⟨w3.heap.size, 1, none⟩ = some (.slice B2 p.2.length d2) ∧ w9.cell? ⟨w5.heap.size, 0, none⟩ = some (.slice A3 R.1.length c3) ∧ w9.cell? ⟨w5.heap.size, 1, none⟩ = some (.slice B3 R.2.length d3) ∧ w9.cell? ⟨w6.heap.size, 0, none⟩ = some (.slice A4 R.1.length c4) ∧ w9.cell? ⟨w6.heap.size, 1, none⟩ = some (.slice B4 R.2.length d4) ∧ w9.cell? ⟨w7.heap.size, 0, none⟩ = some (.slice A5 n5 c5) ∧ w9.cell? ⟨w7.heap.size, 1, none⟩ = some (.slice B5 m5 d5) ∧ w9.cell? ⟨(w7.heap.size + 1), 0, none⟩ = some (.slice A6 n6 c6) ∧ w9.cell? ⟨(w7.heap.size + 1), 1, none⟩ = some (.slice B6 m6 d6)))
      have l1 : w1.heap.size < W.heap.size := X1.out.lt
      have x1 : W.cell? ⟨w1.heap.size, 0, none⟩ = some (.slice A1 n1 c1) := bx_p0 X1.out
      have y1 : W.cell? ⟨w1.heap.size, 1, none⟩ = some (.slice B1 m1 d1) := bx_p1 X1.out
      have l2 : w3.heap.size < W.heap.size := X2.out.lt
      have x2 : W.cell? ⟨w3.heap.size, 0, none⟩ = some (.slice A2 p.1.length c2) := bx_p0 X2.out
      have y2 : W.cell? ⟨w3.heap.size, 1, none⟩ = some (.slice B2 p.2.length d2) := bx_p1 X2.out
      have l3 : w5.heap.size < W.heap.size := X3.out.lt
      have x3 : W.cell? ⟨w5.heap.size, 0, none⟩ = some (.slice A3 R.1.length c3) := bx_p0 X3.out
      have y3 : W.cell? ⟨w5.heap.size, 1, none⟩ = some (.slice B3 R.2.length d3) := bx_p1 X3.out
      have l4 : w6.heap.size < W.heap.size := X4.out.lt
      have x4 : W.cell? ⟨w6.heap.size, 0, none⟩ = some (.slice A4 R.1.length c4) := bx_p0 X4.out
      have y4 : W.cell? ⟨w6.heap.size, 1, none⟩ = some (.slice B4 R.2.length d4) := bx_p1 X4.out
      have l5 : w7.heap.size < W.heap.size := X5.out.lt
      have x5 : W.cell? ⟨w7.heap.size, 0, none⟩ = some (.slice A5 n5 c5) := bx_p0 X5.out
      have y5 : W.cell? ⟨w7.heap.size, 1, none⟩ = some (.slice B5 m5 d5) := bx_p1 X5.out
      have l6 : (w7.heap.size + 1) < W.heap.size := X6.out.lt
      have x6 : W.cell? ⟨(w7.heap.size + 1), 0, none⟩ = some (.slice A6 n6 c6) := bx_p0 X6.out
      have y6 : W.cell? ⟨(w7.heap.size + 1), 1, none⟩ = some (.slice B6 m6 d6) := bx_p1 X6.out
      have hT1 : Hid (∀ w9 : World, Below W.heap.size W w9 → Calls Try.prog 23 #[.agg #[.slice A1 n1 c1, .slice B1 m1 d1]] w9 fun e w' => e = .returned (.string t) ∧ Below w9.heap.size w9 w') := by
        refine hid fun w9 b => ?_
        have h := specPassingText_any A1 B1 n1 c1 m1 d1 p w9 (by omega) (by omega) ((M1.out.below b (Nat.le_refl _)).more b.size) ((N1.out.below b (Nat.le_refl _)).more b.size)
        rw [HT.out] at h
        exact h
      have hT2 : Hid (∀ w9 : World, Below W.heap.size W w9 → Calls Try.prog 24 #[.agg #[.slice A2 p.1.length c2, .slice B2 p.2.length d2], .agg #[.slice A1 n1 c1, .slice B1 m1 d1]] w9 fun e w' => e = .returned (.bool true) ∧ Below w9.heap.size w9 w') := by
        refine hid fun w9 b => ?_
        have h := specSamePassing_any A2 B2 A1 B1 p.1.length c2 p.2.length d2 n1 c1 m1 d1 p p w9 (by have := hl1.out; rw [ths_len] at this; omega) (by have := hl2.out; rw [ths_len] at this; omega) (by omega) (by omega) ((M2.out.below b (Nat.le_refl _)).more b.size) ((N2.out.below b (Nat.le_refl _)).more b.size) ((M1.out.below b (Nat.le_refl _)).more b.size) ((N1.out.below b (Nat.le_refl _)).more b.size)
        rw [same_psg] at h
        exact h
      have hT3 : Hid (∀ w9 : World, Below W.heap.size W w9 → Calls Try.prog 24 #[.agg #[.slice A3 R.1.length c3, .slice B3 R.2.length d3], .agg #[.slice A4 R.1.length c4, .slice B4 R.2.length d4]] w9 fun e w' => e = .returned (.bool true) ∧ Below w9.heap.size w9 w') := by
        refine hid fun w9 b => ?_
        have h := specSamePassing_any A3 B3 A4 B4 R.1.length c3 R.2.length d3 R.1.length c4 R.2.length d4 R R w9 (by omega) (by omega) (by omega) (by omega) ((M3.out.below b (Nat.le_refl _)).more b.size) ((N3.out.below b (Nat.le_refl _)).more b.size) ((M4.out.below b (Nat.le_refl _)).more b.size) ((N4.out.below b (Nat.le_refl _)).more b.size)
        rw [same_psg] at h
        exact h
      have hT5 : Hid (∀ w9 : World, Below W.heap.size W w9 → Calls Try.prog 25 #[.agg #[.slice A5 n5 c5, .slice B5 m5 d5], .agg #[.slice A6 n6 c6, .slice B6 m6 d6]] w9 fun e w' => e = .returned (.bool sb) ∧ Below w9.heap.size w9 w') := by
        refine hid fun w9 b => ?_
        have h := SamePassing_any A5 B5 A6 B6 n5 c5 m5 d5 n6 c6 m6 d6 p5 p6 w9 (by omega) (by omega) (by omega) (by omega) ((M5.out.below b (Nat.le_refl _)).more b.size) ((N5.out.below b (Nat.le_refl _)).more b.size) ((M6.out.below b (Nat.le_refl _)).more b.size) ((N6.out.below b (Nat.le_refl _)).more b.size)
        rw [HSB.out] at h
        exact h
      have hT6 : Hid (∀ w9 : World, Below W.heap.size W w9 → Calls Try.prog 24 #[.agg #[.slice A5 n5 c5, .slice B5 m5 d5], .agg #[.slice A6 n6 c6, .slice B6 m6 d6]] w9 fun e w' => e = .returned (.bool sb) ∧ Below w9.heap.size w9 w') := by
        refine hid fun w9 b => ?_
        have h := specSamePassing_any A5 B5 A6 B6 n5 c5 m5 d5 n6 c6 m6 d6 p5 p6 w9 (by omega) (by omega) (by omega) (by omega) ((M5.out.below b (Nat.le_refl _)).more b.size) ((N5.out.below b (Nat.le_refl _)).more b.size) ((M6.out.below b (Nat.le_refl _)).more b.size) ((N6.out.below b (Nat.le_refl _)).more b.size)
        rw [HSB.out] at h
        exact h
      have hBd : Below W.heap.size W W.drew := (Below.refl _ _).drew
      clear X1 M1 N1 X2 M2 N2 X3 M3 N3 X4 M4 N4 X5 M5 N5 X6 M6 N6
      refine wp_region_noPanic ?_
      refine wp_region_held_drew (S := fun w' => Below W.heap.size W w' ∧ w'.cell? ⟨w1.heap.size, 0, none⟩ = some (.slice A1 n1 c1) ∧ w'.cell? ⟨w1.heap.size, 1, none⟩ = some (.slice B1 m1 d1) ∧ w'.cell? ⟨w3.heap.size, 0, none⟩ = some (.slice A2 p.1.length c2) ∧ w'.cell? ⟨w3.heap.size, 1, none⟩ = some (.slice B2 p.2.length d2) ∧ w'.cell? ⟨w5.heap.size, 0, none⟩ = some (.slice A3 R.1.length c3) ∧ w'.cell? ⟨w5.heap.size, 1, none⟩ = some (.slice B3 R.2.length d3) ∧ w'.cell? ⟨w6.heap.size, 0, none⟩ = some (.slice A4 R.1.length c4) ∧ w'.cell? ⟨w6.heap.size, 1, none⟩ = some (.slice B4 R.2.length d4) ∧ w'.cell? ⟨w7.heap.size, 0, none⟩ = some (.slice A5 n5 c5) ∧ w'.cell? ⟨w7.heap.size, 1, none⟩ = some (.slice B5 m5 d5) ∧ w'.cell? ⟨(w7.heap.size + 1), 0, none⟩ = some (.slice A6 n6 c6) ∧ w'.cell? ⟨(w7.heap.size + 1), 1, none⟩ = some (.slice B6 m6 d6)) (by kernel_rfl) ?_ (fun hHeld => ?_)
      · with_reducible exact hS.out _ hBd
      refine wpAnyH_take (i := 0) (v := ?_) (arr_get at_zero) (by kernel_rfl) (by kernel_rfl) (by kernel_rfl) (fun _ _ _ h => h) (Or.inl ⟨by rfl, ?_⟩) (by assumption) ?_
      rotate_left
      · intro w9 hSw
        try dsimp only at hSw
        go_simp
        all_goals with_reducible rfl
      try simp only [Act.put, List.setIfInBounds_toArray, List.set_cons_zero, List.set_cons_succ]
      refine wpAnyH_take (i := 1) (v := ?_) (arr_get (at_succ at_zero)) (by kernel_rfl) (by kernel_rfl) (by kernel_rfl) (fun _ _ _ h => h) (Or.inl ⟨by rfl, ?_⟩) (by assumption) ?_
      rotate_left
      · intro w9 hSw
        try dsimp only at hSw
        go_simp
        all_goals with_reducible rfl
      try simp only [Act.put, List.setIfInBounds_toArray, List.set_cons_zero, List.set_cons_succ]
      refine wpAnyH_ready (rs := [2]) (by kernel_rfl) (by simp) ?_
      refine AllReadyH.cons (arr_get (at_succ (at_succ at_zero))) (fun K hK => ?_) AllReadyH.nil
      go_simp
      go_at_call 23
      with_reducible refine (hT1.out _ (by assumption)).mono ?_
      rintro e w5 ⟨rfl, hb5⟩
      have hB5 := bchain (show Below W.heap.size W _ by assumption) hb5
      try go_wp2_with fail
      refine hK.out _ _ (by (try dsimp only); with_reducible exact hS.out _ hB5) (fun hHeld => ?_)
      clear hK K
      try simp only [Act.put, List.setIfInBounds_toArray, List.set_cons_zero, List.set_cons_succ]
      refine wpAnyH_take (i := 3) (v := ?_) (arr_get (at_succ (at_succ (at_succ at_zero)))) (by kernel_rfl) (by kernel_rfl) (by kernel_rfl) (fun _ _ _ h => h) (Or.inl ⟨by rfl, ?_⟩) (by assumption) ?_
      rotate_left
      · intro w9 hSw
        try dsimp only at hSw
        go_simp
        all_goals with_reducible rfl
      try simp only [Act.put, List.setIfInBounds_toArray, List.set_cons_zero, List.set_cons_succ]
      refine wpAnyH_take (i := 4) (v := ?_) (arr_get (at_succ (at_succ (at_succ (at_succ at_zero))))) (by kernel_rfl) (by kernel_rfl) (by kernel_rfl) (fun _ _ _ h => h) (Or.inl ⟨by rfl, ?_⟩) (by assumption) ?_
      rotate_left
      · intro w9 hSw
        try dsimp only at hSw
        go_simp
        all_goals with_reducible rfl
      try simp only [Act.put, List.setIfInBounds_toArray, List.set_cons_zero, List.set_cons_succ]
      refine wpAnyH_take (i := 5) (v := ?_) (arr_get (at_succ (at_succ (at_succ (at_succ (at_succ at_zero)))))) (by kernel_rfl) (by kernel_rfl) (by kernel_rfl) (fun _ _ _ h => h) (Or.inl ⟨by rfl, ?_⟩) (by assumption) ?_
      rotate_left
      · intro w9 hSw
        try dsimp only at hSw
        go_simp
        all_goals with_reducible rfl
      try simp only [Act.put, List.setIfInBounds_toArray, List.set_cons_zero, List.set_cons_succ]
      refine wpAnyH_take (i := 6) (v := ?_) (arr_get (at_succ (at_succ (at_succ (at_succ (at_succ (at_succ at_zero))))))) (by kernel_rfl) (by kernel_rfl) (by kernel_rfl) (fun _ _ _ h => h) (Or.inl ⟨by rfl, ?_⟩) (by assumption) ?_
      rotate_left
      · intro w9 hSw
        try dsimp only at hSw
        go_simp
        all_goals with_reducible rfl
      try simp only [Act.put, List.setIfInBounds_toArray, List.set_cons_zero, List.set_cons_succ]
      refine wpAnyH_take (i := 7) (v := ?_) (arr_get (at_succ (at_succ (at_succ (at_succ (at_succ (at_succ (at_succ at_zero)))))))) (by kernel_rfl) (by kernel_rfl) (by kernel_rfl) (fun _ _ _ h => h) (Or.inl ⟨by rfl, ?_⟩) (by assumption) ?_
      rotate_left
      · intro w9 hSw
        try dsimp only at hSw
        go_simp
        all_goals with_reducible rfl
      try simp only [Act.put, List.setIfInBounds_toArray, List.set_cons_zero, List.set_cons_succ]
      refine wpAnyH_take (i := 8) (v := ?_) (arr_get (at_succ (at_succ (at_succ (at_succ (at_succ (at_succ (at_succ (at_succ at_zero))))))))) (by kernel_rfl) (by kernel_rfl) (by kernel_rfl) (fun _ _ _ h => h) (Or.inl ⟨by rfl, ?_⟩) (by assumption) ?_
      rotate_left
      · intro w9 hSw
        try dsimp only at hSw
        go_simp
        all_goals with_reducible rfl
      try simp only [Act.put, List.setIfInBounds_toArray, List.set_cons_zero, List.set_cons_succ]
      refine wpAnyH_take (i := 9) (v := ?_) (arr_get (at_succ (at_succ (at_succ (at_succ (at_succ (at_succ (at_succ (at_succ (at_succ at_zero)))))))))) (by kernel_rfl) (by kernel_rfl) (by kernel_rfl) (fun _ _ _ h => h) (Or.inl ⟨by rfl, ?_⟩) (by assumption) ?_
      rotate_left
      · intro w9 hSw
        try dsimp only at hSw
        go_simp
        all_goals with_reducible rfl
      try simp only [Act.put, List.setIfInBounds_toArray, List.set_cons_zero, List.set_cons_succ]
      refine wpAnyH_take (i := 10) (v := ?_) (arr_get (at_succ (at_succ (at_succ (at_succ (at_succ (at_succ (at_succ (at_succ (at_succ (at_succ at_zero))))))))))) (by kernel_rfl) (by kernel_rfl) (by kernel_rfl) (fun _ _ _ h => h) (Or.inl ⟨by rfl, ?_⟩) (by assumption) ?_
      rotate_left
      · intro w9 hSw
        try dsimp only at hSw
        go_simp
        all_goals with_reducible rfl
      try simp only [Act.put, List.setIfInBounds_toArray, List.set_cons_zero, List.set_cons_succ]
      refine wpAnyH_take (i := 11) (v := ?_) (arr_get (at_succ (at_succ (at_succ (at_succ (at_succ (at_succ (at_succ (at_succ (at_succ (at_succ (at_succ at_zero)))))))))))) (by kernel_rfl) (by kernel_rfl) (by kernel_rfl) (fun _ _ _ h => h) (Or.inl ⟨by rfl, ?_⟩) (by assumption) ?_
      rotate_left
      · intro w9 hSw
        try dsimp only at hSw
        go_simp
        all_goals with_reducible rfl
      try simp only [Act.put, List.setIfInBounds_toArray, List.set_cons_zero, List.set_cons_succ]
      refine wpAnyH_take (i := 12) (v := ?_) (arr_get (at_succ (at_succ (at_succ (at_succ (at_succ (at_succ (at_succ (at_succ (at_succ (at_succ (at_succ (at_succ at_zero))))))))))))) (by kernel_rfl) (by kernel_rfl) (by kernel_rfl) (fun _ _ _ h => h) (Or.inl ⟨by rfl, ?_⟩) (by assumption) ?_
      rotate_left
      · intro w9 hSw
        try dsimp only at hSw
        go_simp
        all_goals with_reducible rfl
      try simp only [Act.put, List.setIfInBounds_toArray, List.set_cons_zero, List.set_cons_succ]
      refine wpAnyH_take (i := 13) (v := ?_) (arr_get (at_succ (at_succ (at_succ (at_succ (at_succ (at_succ (at_succ (at_succ (at_succ (at_succ (at_succ (at_succ (at_succ at_zero)))))))))))))) (by kernel_rfl) (by kernel_rfl) (by kernel_rfl) (fun _ _ _ h => h) (Or.inl ⟨by rfl, ?_⟩) (by assumption) ?_
      rotate_left
      · intro w9 hSw
        try dsimp only at hSw
        go_simp
        all_goals with_reducible rfl
      try simp only [Act.put, List.setIfInBounds_toArray, List.set_cons_zero, List.set_cons_succ]
      refine wpAnyH_take (i := 14) (v := ?_) (arr_get (at_succ (at_succ (at_succ (at_succ (at_succ (at_succ (at_succ (at_succ (at_succ (at_succ (at_succ (at_succ (at_succ (at_succ at_zero))))))))))))))) (by kernel_rfl) (by kernel_rfl) (by kernel_rfl) (fun _ _ _ h => h) (Or.inl ⟨by rfl, ?_⟩) (by assumption) ?_
      rotate_left
      · intro w9 hSw
        try dsimp only at hSw
        go_simp
        all_goals with_reducible rfl
      try simp only [Act.put, List.setIfInBounds_toArray, List.set_cons_zero, List.set_cons_succ]
      refine wpAnyH_take (i := 15) (v := ?_) (arr_get (at_succ (at_succ (at_succ (at_succ (at_succ (at_succ (at_succ (at_succ (at_succ (at_succ (at_succ (at_succ (at_succ (at_succ (at_succ at_zero)))))))))))))))) (by kernel_rfl) (by kernel_rfl) (by kernel_rfl) (fun _ _ _ h => h) (Or.inl ⟨by rfl, ?_⟩) (by assumption) ?_
      rotate_left
      · intro w9 hSw
        try dsimp only at hSw
        go_simp
        all_goals with_reducible rfl
      try simp only [Act.put, List.setIfInBounds_toArray, List.set_cons_zero, List.set_cons_succ]
      refine wpAnyH_ready (rs := [16]) (by kernel_rfl) (by simp) ?_
      refine AllReadyH.cons (arr_get (at_succ (at_succ (at_succ (at_succ (at_succ (at_succ (at_succ (at_succ (at_succ (at_succ (at_succ (at_succ (at_succ (at_succ (at_succ (at_succ at_zero))))))))))))))))) (fun K hK => ?_) AllReadyH.nil
      go_simp
      go_at_call 24
      with_reducible refine (hT2.out _ (by assumption)).mono ?_
      rintro e w5 ⟨rfl, hb5⟩
      have hB5 := bchain (show Below W.heap.size W _ by assumption) hb5
      try go_wp2_with fail
      refine hK.out _ _ (by (try dsimp only); with_reducible exact hS.out _ hB5) (fun hHeld => ?_)
      clear hK K
      try simp only [Act.put, List.setIfInBounds_toArray, List.set_cons_zero, List.set_cons_succ]
      refine wpAnyH_take (i := 17) (v := ?_) (arr_get (at_succ (at_succ (at_succ (at_succ (at_succ (at_succ (at_succ (at_succ (at_succ (at_succ (at_succ (at_succ (at_succ (at_succ (at_succ (at_succ (at_succ at_zero)))))))))))))))))) (by kernel_rfl) (by kernel_rfl) (by kernel_rfl) (fun _ _ _ h => h) (Or.inl ⟨by rfl, ?_⟩) (by assumption) ?_
      rotate_left
      · intro w9 hSw
        try dsimp only at hSw
        go_simp
        all_goals with_reducible rfl
      try simp only [Act.put, List.setIfInBounds_toArray, List.set_cons_zero, List.set_cons_succ]
      refine wpAnyH_take (i := 18) (v := ?_) (arr_get (at_succ (at_succ (at_succ (at_succ (at_succ (at_succ (at_succ (at_succ (at_succ (at_succ (at_succ (at_succ (at_succ (at_succ (at_succ (at_succ (at_succ (at_succ at_zero))))))))))))))))))) (by kernel_rfl) (by kernel_rfl) (by kernel_rfl) (fun _ _ _ h => h) (Or.inl ⟨by rfl, ?_⟩) (by assumption) ?_
      rotate_left
      · intro w9 hSw
        try dsimp only at hSw
        go_simp
        all_goals with_reducible rfl
      try simp only [Act.put, List.setIfInBounds_toArray, List.set_cons_zero, List.set_cons_succ]
      refine wpAnyH_take (i := 19) (v := ?_) (arr_get (at_succ (at_succ (at_succ (at_succ (at_succ (at_succ (at_succ (at_succ (at_succ (at_succ (at_succ (at_succ (at_succ (at_succ (at_succ (at_succ (at_succ (at_succ (at_succ at_zero)))))))))))))))))))) (by kernel_rfl) (by kernel_rfl) (by kernel_rfl) (fun _ _ _ h => h) (Or.inl ⟨by rfl, ?_⟩) (by assumption) ?_
      rotate_left
      · intro w9 hSw
        try dsimp only at hSw
        go_simp
        all_goals with_reducible rfl
      try simp only [Act.put, List.setIfInBounds_toArray, List.set_cons_zero, List.set_cons_succ]
      refine wpAnyH_take (i := 20) (v := ?_) (arr_get (at_succ (at_succ (at_succ (at_succ (at_succ (at_succ (at_succ (at_succ (at_succ (at_succ (at_succ (at_succ (at_succ (at_succ (at_succ (at_succ (at_succ (at_succ (at_succ (at_succ at_zero))))))))))))))))))))) (by kernel_rfl) (by kernel_rfl) (by kernel_rfl) (fun _ _ _ h => h) (Or.inl ⟨by rfl, ?_⟩) (by assumption) ?_
      rotate_left
      · intro w9 hSw
        try dsimp only at hSw
        go_simp
        all_goals with_reducible rfl
      try simp only [Act.put, List.setIfInBounds_toArray, List.set_cons_zero, List.set_cons_succ]
      refine wpAnyH_take (i := 21) (v := ?_) (arr_get (at_succ (at_succ (at_succ (at_succ (at_succ (at_succ (at_succ (at_succ (at_succ (at_succ (at_succ (at_succ (at_succ (at_succ (at_succ (at_succ (at_succ (at_succ (at_succ (at_succ (at_succ at_zero)))))))))))))))))))))) (by kernel_rfl) (by kernel_rfl) (by kernel_rfl) (fun _ _ _ h => h) (Or.inl ⟨by rfl, ?_⟩) (by assumption) ?_
      rotate_left
      · intro w9 hSw
        try dsimp only at hSw
        go_simp
        all_goals with_reducible rfl
      try simp only [Act.put, List.setIfInBounds_toArray, List.set_cons_zero, List.set_cons_succ]
      refine wpAnyH_take (i := 22) (v := ?_) (arr_get (at_succ (at_succ (at_succ (at_succ (at_succ (at_succ (at_succ (at_succ (at_succ (at_succ (at_succ (at_succ (at_succ (at_succ (at_succ (at_succ (at_succ (at_succ (at_succ (at_succ (at_succ (at_succ at_zero))))))))))))))))))))))) (by kernel_rfl) (by kernel_rfl) (by kernel_rfl) (fun _ _ _ h => h) (Or.inl ⟨by rfl, ?_⟩) (by assumption) ?_
      rotate_left
      · intro w9 hSw
        try dsimp only at hSw
        go_simp
        all_goals with_reducible rfl
      try simp only [Act.put, List.setIfInBounds_toArray, List.set_cons_zero, List.set_cons_succ]
      refine wpAnyH_take (i := 23) (v := ?_) (arr_get (at_succ (at_succ (at_succ (at_succ (at_succ (at_succ (at_succ (at_succ (at_succ (at_succ (at_succ (at_succ (at_succ (at_succ (at_succ (at_succ (at_succ (at_succ (at_succ (at_succ (at_succ (at_succ (at_succ at_zero)))))))))))))))))))))))) (by kernel_rfl) (by kernel_rfl) (by kernel_rfl) (fun _ _ _ h => h) (Or.inl ⟨by rfl, ?_⟩) (by assumption) ?_
      rotate_left
      · intro w9 hSw
        try dsimp only at hSw
        go_simp
        all_goals with_reducible rfl
      try simp only [Act.put, List.setIfInBounds_toArray, List.set_cons_zero, List.set_cons_succ]
      refine wpAnyH_take (i := 24) (v := ?_) (arr_get (at_succ (at_succ (at_succ (at_succ (at_succ (at_succ (at_succ (at_succ (at_succ (at_succ (at_succ (at_succ (at_succ (at_succ (at_succ (at_succ (at_succ (at_succ (at_succ (at_succ (at_succ (at_succ (at_succ (at_succ at_zero))))))))))))))))))))))))) (by kernel_rfl) (by kernel_rfl) (by kernel_rfl) (fun _ _ _ h => h) (Or.inl ⟨by rfl, ?_⟩) (by assumption) ?_
      rotate_left
      · intro w9 hSw
        try dsimp only at hSw
        go_simp
        all_goals with_reducible rfl
      try simp only [Act.put, List.setIfInBounds_toArray, List.set_cons_zero, List.set_cons_succ]
      refine wpAnyH_take (i := 25) (v := ?_) (arr_get (at_succ (at_succ (at_succ (at_succ (at_succ (at_succ (at_succ (at_succ (at_succ (at_succ (at_succ (at_succ (at_succ (at_succ (at_succ (at_succ (at_succ (at_succ (at_succ (at_succ (at_succ (at_succ (at_succ (at_succ (at_succ at_zero)))))))))))))))))))))))))) (by kernel_rfl) (by kernel_rfl) (by kernel_rfl) (fun _ _ _ h => h) (Or.inl ⟨by rfl, ?_⟩) (by assumption) ?_
      rotate_left
      · intro w9 hSw
        try dsimp only at hSw
        go_simp
        all_goals with_reducible rfl
      try simp only [Act.put, List.setIfInBounds_toArray, List.set_cons_zero, List.set_cons_succ]
      refine wpAnyH_take (i := 26) (v := ?_) (arr_get (at_succ (at_succ (at_succ (at_succ (at_succ (at_succ (at_succ (at_succ (at_succ (at_succ (at_succ (at_succ (at_succ (at_succ (at_succ (at_succ (at_succ (at_succ (at_succ (at_succ (at_succ (at_succ (at_succ (at_succ (at_succ (at_succ at_zero))))))))))))))))))))))))))) (by kernel_rfl) (by kernel_rfl) (by kernel_rfl) (fun _ _ _ h => h) (Or.inl ⟨by rfl, ?_⟩) (by assumption) ?_
      rotate_left
      · intro w9 hSw
        try dsimp only at hSw
        go_simp
        all_goals with_reducible rfl
      try simp only [Act.put, List.setIfInBounds_toArray, List.set_cons_zero, List.set_cons_succ]
      refine wpAnyH_ready (rs := [27]) (by kernel_rfl) (by simp) ?_
      refine AllReadyH.cons (arr_get (at_succ (at_succ (at_succ (at_succ (at_succ (at_succ (at_succ (at_succ (at_succ (at_succ (at_succ (at_succ (at_succ (at_succ (at_succ (at_succ (at_succ (at_succ (at_succ (at_succ (at_succ (at_succ (at_succ (at_succ (at_succ (at_succ (at_succ at_zero)))))))))))))))))))))))))))) (fun K hK => ?_) AllReadyH.nil
      go_simp
      go_at_call 24
      with_reducible refine (hT3.out _ (by assumption)).mono ?_
      rintro e w5 ⟨rfl, hb5⟩
      have hB5 := bchain (show Below W.heap.size W _ by assumption) hb5
      try go_wp2_with fail
      refine hK.out _ _ (by (try dsimp only); with_reducible exact hS.out _ hB5) (fun hHeld => ?_)
      clear hK K
      try simp only [Act.put, List.setIfInBounds_toArray, List.set_cons_zero, List.set_cons_succ]
      refine wpAnyH_take (i := 28) (v := ?_) (arr_get (at_succ (at_succ (at_succ (at_succ (at_succ (at_succ (at_succ (at_succ (at_succ (at_succ (at_succ (at_succ (at_succ (at_succ (at_succ (at_succ (at_succ (at_succ (at_succ (at_succ (at_succ (at_succ (at_succ (at_succ (at_succ (at_succ (at_succ (at_succ at_zero))))))))))))))))))))))))))))) (by kernel_rfl) (by kernel_rfl) (by kernel_rfl) (fun _ _ _ h => h) (Or.inl ⟨by rfl, ?_⟩) (by assumption) ?_
      rotate_left
      · intro w9 hSw
        try dsimp only at hSw
        go_simp
        all_goals with_reducible rfl
      try simp only [Act.put, List.setIfInBounds_toArray, List.set_cons_zero, List.set_cons_succ]
      refine wpAnyH_take (i := 29) (v := ?_) (arr_get (at_succ (at_succ (at_succ (at_succ (at_succ (at_succ (at_succ (at_succ (at_succ (at_succ (at_succ (at_succ (at_succ (at_succ (at_succ (at_succ (at_succ (at_succ (at_succ (at_succ (at_succ (at_succ (at_succ (at_succ (at_succ (at_succ (at_succ (at_succ (at_succ at_zero)))))))))))))))))))))))))))))) (by kernel_rfl) (by kernel_rfl) (by kernel_rfl) (fun _ _ _ h => h) (Or.inl ⟨by rfl, ?_⟩) (by assumption) ?_
      rotate_left
      · intro w9 hSw
        try dsimp only at hSw
        go_simp
        all_goals with_reducible rfl
      try simp only [Act.put, List.setIfInBounds_toArray, List.set_cons_zero, List.set_cons_succ]
      refine wpAnyH_take (i := 30) (v := ?_) (arr_get (at_succ (at_succ (at_succ (at_succ (at_succ (at_succ (at_succ (at_succ (at_succ (at_succ (at_succ (at_succ (at_succ (at_succ (at_succ (at_succ (at_succ (at_succ (at_succ (at_succ (at_succ (at_succ (at_succ (at_succ (at_succ (at_succ (at_succ (at_succ (at_succ (at_succ at_zero))))))))))))))))))))))))))))))) (by kernel_rfl) (by kernel_rfl) (by kernel_rfl) (fun _ _ _ h => h) (Or.inl ⟨by rfl, ?_⟩) (by assumption) ?_
      rotate_left
      · intro w9 hSw
        try dsimp only at hSw
        go_simp
        all_goals with_reducible rfl
      try simp only [Act.put, List.setIfInBounds_toArray, List.set_cons_zero, List.set_cons_succ]
      refine wpAnyH_take (i := 31) (v := ?_) (arr_get (at_succ (at_succ (at_succ (at_succ (at_succ (at_succ (at_succ (at_succ (at_succ (at_succ (at_succ (at_succ (at_succ (at_succ (at_succ (at_succ (at_succ (at_succ (at_succ (at_succ (at_succ (at_succ (at_succ (at_succ (at_succ (at_succ (at_succ (at_succ (at_succ (at_succ (at_succ at_zero)))))))))))))))))))))))))))))))) (by kernel_rfl) (by kernel_rfl) (by kernel_rfl) (fun _ _ _ h => h) (Or.inl ⟨by rfl, ?_⟩) (by assumption) ?_
      rotate_left
      · intro w9 hSw
        try dsimp only at hSw
        go_simp
        all_goals with_reducible rfl
      try simp only [Act.put, List.setIfInBounds_toArray, List.set_cons_zero, List.set_cons_succ]
      refine wpAnyH_take (i := 32) (v := ?_) (arr_get (at_succ (at_succ (at_succ (at_succ (at_succ (at_succ (at_succ (at_succ (at_succ (at_succ (at_succ (at_succ (at_succ (at_succ (at_succ (at_succ (at_succ (at_succ (at_succ (at_succ (at_succ (at_succ (at_succ (at_succ (at_succ (at_succ (at_succ (at_succ (at_succ (at_succ (at_succ (at_succ at_zero))))))))))))))))))))))))))))))))) (by kernel_rfl) (by kernel_rfl) (by kernel_rfl) (fun _ _ _ h => h) (Or.inl ⟨by rfl, ?_⟩) (by assumption) ?_
      rotate_left
      · intro w9 hSw
        try dsimp only at hSw
        go_simp
        all_goals with_reducible rfl
      try simp only [Act.put, List.setIfInBounds_toArray, List.set_cons_zero, List.set_cons_succ]
      refine wpAnyH_take (i := 33) (v := undef) (arr_get (at_succ (at_succ (at_succ (at_succ (at_succ (at_succ (at_succ (at_succ (at_succ (at_succ (at_succ (at_succ (at_succ (at_succ (at_succ (at_succ (at_succ (at_succ (at_succ (at_succ (at_succ (at_succ (at_succ (at_succ (at_succ (at_succ (at_succ (at_succ (at_succ (at_succ (at_succ (at_succ (at_succ at_zero)))))))))))))))))))))))))))))))))) (by kernel_rfl) (by kernel_rfl) (by kernel_rfl) (fun _ _ _ h => h) (Or.inr ⟨by rfl, rfl⟩) (by assumption) ?_
      try simp only [Act.put, List.setIfInBounds_toArray, List.set_cons_zero, List.set_cons_succ]
      refine wpAnyH_take (i := 35) (v := undef) (arr_get (at_succ (at_succ (at_succ (at_succ (at_succ (at_succ (at_succ (at_succ (at_succ (at_succ (at_succ (at_succ (at_succ (at_succ (at_succ (at_succ (at_succ (at_succ (at_succ (at_succ (at_succ (at_succ (at_succ (at_succ (at_succ (at_succ (at_succ (at_succ (at_succ (at_succ (at_succ (at_succ (at_succ (at_succ (at_succ at_zero)))))))))))))))))))))))))))))))))))) (by kernel_rfl) (by kernel_rfl) (by kernel_rfl) (fun _ _ _ h => h) (Or.inr ⟨by rfl, rfl⟩) (by assumption) ?_
      try simp only [Act.put, List.setIfInBounds_toArray, List.set_cons_zero, List.set_cons_succ]
      refine wpAnyH_ready (rs := [34]) (by kernel_rfl) (by simp) ?_
      refine AllReadyH.cons (arr_get (at_succ (at_succ (at_succ (at_succ (at_succ (at_succ (at_succ (at_succ (at_succ (at_succ (at_succ (at_succ (at_succ (at_succ (at_succ (at_succ (at_succ (at_succ (at_succ (at_succ (at_succ (at_succ (at_succ (at_succ (at_succ (at_succ (at_succ (at_succ (at_succ (at_succ (at_succ (at_succ (at_succ (at_succ at_zero))))))))))))))))))))))))))))))))))) (fun K hK => ?_) AllReadyH.nil
      go_simp
      refine hK.out _ _ (by (try dsimp only); assumption) (fun hHeld => ?_)
      clear hK K
      try simp only [Act.put, List.setIfInBounds_toArray, List.set_cons_zero, List.set_cons_succ]
      refine wpAnyH_take (i := 36) (v := undef) (arr_get (at_succ (at_succ (at_succ (at_succ (at_succ (at_succ (at_succ (at_succ (at_succ (at_succ (at_succ (at_succ (at_succ (at_succ (at_succ (at_succ (at_succ (at_succ (at_succ (at_succ (at_succ (at_succ (at_succ (at_succ (at_succ (at_succ (at_succ (at_succ (at_succ (at_succ (at_succ (at_succ (at_succ (at_succ (at_succ (at_succ at_zero))))))))))))))))))))))))))))))))))))) (by kernel_rfl) (by kernel_rfl) (by kernel_rfl) (fun _ _ _ h => h) (Or.inr ⟨by rfl, rfl⟩) (by assumption) ?_
      try simp only [Act.put, List.setIfInBounds_toArray, List.set_cons_zero, List.set_cons_succ]
      refine wpAnyH_take (i := 37) (v := ?_) (arr_get (at_succ (at_succ (at_succ (at_succ (at_succ (at_succ (at_succ (at_succ (at_succ (at_succ (at_succ (at_succ (at_succ (at_succ (at_succ (at_succ (at_succ (at_succ (at_succ (at_succ (at_succ (at_succ (at_succ (at_succ (at_succ (at_succ (at_succ (at_succ (at_succ (at_succ (at_succ (at_succ (at_succ (at_succ (at_succ (at_succ (at_succ at_zero)))))))))))))))))))))))))))))))))))))) (by kernel_rfl) (by kernel_rfl) (by kernel_rfl) (fun _ _ _ h => h) (Or.inl ⟨by rfl, ?_⟩) (by assumption) ?_
      rotate_left
      · intro w9 hSw
        try dsimp only at hSw
        go_simp
        all_goals with_reducible rfl
      try simp only [Act.put, List.setIfInBounds_toArray, List.set_cons_zero, List.set_cons_succ]
      refine wpAnyH_take (i := 38) (v := ?_) (arr_get (at_succ (at_succ (at_succ (at_succ (at_succ (at_succ (at_succ (at_succ (at_succ (at_succ (at_succ (at_succ (at_succ (at_succ (at_succ (at_succ (at_succ (at_succ (at_succ (at_succ (at_succ (at_succ (at_succ (at_succ (at_succ (at_succ (at_succ (at_succ (at_succ (at_succ (at_succ (at_succ (at_succ (at_succ (at_succ (at_succ (at_succ (at_succ at_zero))))))))))))))))))))))))))))))))))))))) (by kernel_rfl) (by kernel_rfl) (by kernel_rfl) (fun _ _ _ h => h) (Or.inl ⟨by rfl, ?_⟩) (by assumption) ?_
      rotate_left
      · intro w9 hSw
        try dsimp only at hSw
        go_simp
        all_goals with_reducible rfl
      try simp only [Act.put, List.setIfInBounds_toArray, List.set_cons_zero, List.set_cons_succ]
      refine wpAnyH_take (i := 39) (v := ?_) (arr_get (at_succ (at_succ (at_succ (at_succ (at_succ (at_succ (at_succ (at_succ (at_succ (at_succ (at_succ (at_succ (at_succ (at_succ (at_succ (at_succ (at_succ (at_succ (at_succ (at_succ (at_succ (at_succ (at_succ (at_succ (at_succ (at_succ (at_succ (at_succ (at_succ (at_succ (at_succ (at_succ (at_succ (at_succ (at_succ (at_succ (at_succ (at_succ (at_succ at_zero)))))))))))))))))))))))))))))))))))))))) (by kernel_rfl) (by kernel_rfl) (by kernel_rfl) (fun _ _ _ h => h) (Or.inl ⟨by rfl, ?_⟩) (by assumption) ?_
      rotate_left
      · intro w9 hSw
        try dsimp only at hSw
        go_simp
        all_goals with_reducible rfl
      try simp only [Act.put, List.setIfInBounds_toArray, List.set_cons_zero, List.set_cons_succ]
      refine wpAnyH_take (i := 40) (v := ?_) (arr_get (at_succ (at_succ (at_succ (at_succ (at_succ (at_succ (at_succ (at_succ (at_succ (at_succ (at_succ (at_succ (at_succ (at_succ (at_succ (at_succ (at_succ (at_succ (at_succ (at_succ (at_succ (at_succ (at_succ (at_succ (at_succ (at_succ (at_succ (at_succ (at_succ (at_succ (at_succ (at_succ (at_succ (at_succ (at_succ (at_succ (at_succ (at_succ (at_succ (at_succ at_zero))))))))))))))))))))))))))))))))))))))))) (by kernel_rfl) (by kernel_rfl) (by kernel_rfl) (fun _ _ _ h => h) (Or.inl ⟨by rfl, ?_⟩) (by assumption) ?_
      rotate_left
      · intro w9 hSw
        try dsimp only at hSw
        go_simp
        all_goals with_reducible rfl
      try simp only [Act.put, List.setIfInBounds_toArray, List.set_cons_zero, List.set_cons_succ]
      refine wpAnyH_take (i := 41) (v := ?_) (arr_get (at_succ (at_succ (at_succ (at_succ (at_succ (at_succ (at_succ (at_succ (at_succ (at_succ (at_succ (at_succ (at_succ (at_succ (at_succ (at_succ (at_succ (at_succ (at_succ (at_succ (at_succ (at_succ (at_succ (at_succ (at_succ (at_succ (at_succ (at_succ (at_succ (at_succ (at_succ (at_succ (at_succ (at_succ (at_succ (at_succ (at_succ (at_succ (at_succ (at_succ (at_succ at_zero)))))))))))))))))))))))))))))))))))))))))) (by kernel_rfl) (by kernel_rfl) (by kernel_rfl) (fun _ _ _ h => h) (Or.inl ⟨by rfl, ?_⟩) (by assumption) ?_
      rotate_left
      · intro w9 hSw
        try dsimp only at hSw
        go_simp
        all_goals with_reducible rfl
      try simp only [Act.put, List.setIfInBounds_toArray, List.set_cons_zero, List.set_cons_succ]
      refine wpAnyH_take (i := 43) (v := ?_) (arr_get (at_succ (at_succ (at_succ (at_succ (at_succ (at_succ (at_succ (at_succ (at_succ (at_succ (at_succ (at_succ (at_succ (at_succ (at_succ (at_succ (at_succ (at_succ (at_succ (at_succ (at_succ (at_succ (at_succ (at_succ (at_succ (at_succ (at_succ (at_succ (at_succ (at_succ (at_succ (at_succ (at_succ (at_succ (at_succ (at_succ (at_succ (at_succ (at_succ (at_succ (at_succ (at_succ (at_succ at_zero)))))))))))))))))))))))))))))))))))))))))))) (by kernel_rfl) (by kernel_rfl) (by kernel_rfl) (fun _ _ _ h => h) (Or.inl ⟨by rfl, ?_⟩) (by assumption) ?_
      rotate_left
      · intro w9 hSw
        try dsimp only at hSw
        go_simp
        all_goals with_reducible rfl
      try simp only [Act.put, List.setIfInBounds_toArray, List.set_cons_zero, List.set_cons_succ]
      refine wpAnyH_take (i := 44) (v := ?_) (arr_get (at_succ (at_succ (at_succ (at_succ (at_succ (at_succ (at_succ (at_succ (at_succ (at_succ (at_succ (at_succ (at_succ (at_succ (at_succ (at_succ (at_succ (at_succ (at_succ (at_succ (at_succ (at_succ (at_succ (at_succ (at_succ (at_succ (at_succ (at_succ (at_succ (at_succ (at_succ (at_succ (at_succ (at_succ (at_succ (at_succ (at_succ (at_succ (at_succ (at_succ (at_succ (at_succ (at_succ (at_succ at_zero))))))))))))))))))))))))))))))))))))))))))))) (by kernel_rfl) (by kernel_rfl) (by kernel_rfl) (fun _ _ _ h => h) (Or.inl ⟨by rfl, ?_⟩) (by assumption) ?_
      rotate_left
      · intro w9 hSw
        try dsimp only at hSw
        go_simp
        all_goals with_reducible rfl
      try simp only [Act.put, List.setIfInBounds_toArray, List.set_cons_zero, List.set_cons_succ]
      refine wpAnyH_ready (rs := [42]) (by kernel_rfl) (by simp) ?_
      refine AllReadyH.cons (arr_get (at_succ (at_succ (at_succ (at_succ (at_succ (at_succ (at_succ (at_succ (at_succ (at_succ (at_succ (at_succ (at_succ (at_succ (at_succ (at_succ (at_succ (at_succ (at_succ (at_succ (at_succ (at_succ (at_succ (at_succ (at_succ (at_succ (at_succ (at_succ (at_succ (at_succ (at_succ (at_succ (at_succ (at_succ (at_succ (at_succ (at_succ (at_succ (at_succ (at_succ (at_succ (at_succ at_zero))))))))))))))))))))))))))))))))))))))))))) (fun K hK => ?_) AllReadyH.nil
      go_simp
      go_at_call 25
      with_reducible refine (hT5.out _ (by assumption)).mono ?_
      rintro e w5 ⟨rfl, hb5⟩
      have hB5 := bchain (show Below W.heap.size W _ by assumption) hb5
      try go_wp2_with fail
      refine hK.out _ _ (by (try dsimp only); with_reducible exact hS.out _ hB5) (fun hHeld => ?_)
      clear hK K
      try simp only [Act.put, List.setIfInBounds_toArray, List.set_cons_zero, List.set_cons_succ]
      refine wpAnyH_ready (rs := [45]) (by kernel_rfl) (by simp) ?_
      refine AllReadyH.cons (arr_get (at_succ (at_succ (at_succ (at_succ (at_succ (at_succ (at_succ (at_succ (at_succ (at_succ (at_succ (at_succ (at_succ (at_succ (at_succ (at_succ (at_succ (at_succ (at_succ (at_succ (at_succ (at_succ (at_succ (at_succ (at_succ (at_succ (at_succ (at_succ (at_succ (at_succ (at_succ (at_succ (at_succ (at_succ (at_succ (at_succ (at_succ (at_succ (at_succ (at_succ (at_succ (at_succ (at_succ (at_succ (at_succ at_zero)))))))))))))))))))))))))))))))))))))))))))))) (fun K hK => ?_) AllReadyH.nil
      go_simp
      go_at_call 24
      with_reducible refine (hT6.out _ (by assumption)).mono ?_
      rintro e w5 ⟨rfl, hb5⟩
      have hB5 := bchain (show Below W.heap.size W _ by assumption) hb5
      try go_wp2_with fail
      refine hK.out _ _ (by (try dsimp only); with_reducible exact hS.out _ hB5) (fun hHeld => ?_)
      clear hK K
      try simp only [Act.put, List.setIfInBounds_toArray, List.set_cons_zero, List.set_cons_succ]
      refine wpAnyH_take (i := 46) (v := ?_) (arr_get (at_succ (at_succ (at_succ (at_succ (at_succ (at_succ (at_succ (at_succ (at_succ (at_succ (at_succ (at_succ (at_succ (at_succ (at_succ (at_succ (at_succ (at_succ (at_succ (at_succ (at_succ (at_succ (at_succ (at_succ (at_succ (at_succ (at_succ (at_succ (at_succ (at_succ (at_succ (at_succ (at_succ (at_succ (at_succ (at_succ (at_succ (at_succ (at_succ (at_succ (at_succ (at_succ (at_succ (at_succ (at_succ (at_succ at_zero))))))))))))))))))))))))))))))))))))))))))))))) (by kernel_rfl) (by kernel_rfl) (by kernel_rfl) (fun _ _ _ h => h) (Or.inl ⟨by rfl, ?_⟩) (by assumption) ?_
      rotate_left
      · intro w9 hSw
        try dsimp only at hSw
        go_simp
        all_goals with_reducible rfl
      try simp only [Act.put, List.setIfInBounds_toArray, List.set_cons_zero, List.set_cons_succ]
      refine wpAnyH_take (i := 47) (v := ?_) (arr_get (at_succ (at_succ (at_succ (at_succ (at_succ (at_succ (at_succ (at_succ (at_succ (at_succ (at_succ (at_succ (at_succ (at_succ (at_succ (at_succ (at_succ (at_succ (at_succ (at_succ (at_succ (at_succ (at_succ (at_succ (at_succ (at_succ (at_succ (at_succ (at_succ (at_succ (at_succ (at_succ (at_succ (at_succ (at_succ (at_succ (at_succ (at_succ (at_succ (at_succ (at_succ (at_succ (at_succ (at_succ (at_succ (at_succ (at_succ at_zero)))))))))))))))))))))))))))))))))))))))))))))))) (by kernel_rfl) (by kernel_rfl) (by kernel_rfl) (fun _ _ _ h => h) (Or.inl ⟨by rfl, ?_⟩) (by assumption) ?_
      rotate_left
      · intro w9 hSw
        try dsimp only at hSw
        go_simp
        all_goals with_reducible rfl
      try simp only [Act.put, List.setIfInBounds_toArray, List.set_cons_zero, List.set_cons_succ]
      refine wpAnyH_take (i := 48) (v := ?_) (arr_get (at_succ (at_succ (at_succ (at_succ (at_succ (at_succ (at_succ (at_succ (at_succ (at_succ (at_succ (at_succ (at_succ (at_succ (at_succ (at_succ (at_succ (at_succ (at_succ (at_succ (at_succ (at_succ (at_succ (at_succ (at_succ (at_succ (at_succ (at_succ (at_succ (at_succ (at_succ (at_succ (at_succ (at_succ (at_succ (at_succ (at_succ (at_succ (at_succ (at_succ (at_succ (at_succ (at_succ (at_succ (at_succ (at_succ (at_succ (at_succ at_zero))))))))))))))))))))))))))))))))))))))))))))))))) (by kernel_rfl) (by kernel_rfl) (by kernel_rfl) (fun _ _ _ h => h) (Or.inl ⟨by rfl, ?_⟩) (by assumption) ?_
      rotate_left
      · intro w9 hSw
        try dsimp only at hSw
        go_simp
        all_goals with_reducible rfl
      try simp only [Act.put, List.setIfInBounds_toArray, List.set_cons_zero, List.set_cons_succ]
      refine wpAnyH_done (by kernel_rfl) ?_ _
      refine NoPanic.normal ?_
      go_wp2
      go_ret
      exact ⟨by first | rfl | (simp; done), bchain HB.out (by assumption)⟩
  | false =>
    have hT0 : t = ⟨#[]⟩ := by rw [← HT.out, rPassingText, hp]; rfl
    subst hT0
    have HBK : Hid (rReadPassing (tl (⟨#[]⟩ : ByteArray)) = ((([], []) : Psg), false)) := by show _ = _; exact rReadP_empty
    clear hp
    have hC := ReadPassing_any ⟨#[]⟩ w2 (by first | omega | decide)
    rw [HBK.out] at hC
    replace hC := hid hC
    go_wp2_with fail
    refine (hC.out).mono ?_
    rintro e w3 ⟨⟨A2, c2, B2, d2, _, _, rfl, ho2, hp2⟩, hb3⟩
    try clear l1
    try clear x1 y1
    clear hC
    simp only [List.length_nil] at ho2 hp2
    have HO2 := hid (Rd.of_own ho2)
    have HP2 := hid (Rd.of_own hp2)
    clear ho2 hp2
    have X1 := hid (X1.out.below hb3 X1.out.lt)
    have M1 := hid ((M1.out.below hb3 (Nat.le_refl _)).more hb3.size)
    have N1 := hid ((N1.out.below hb3 (Nat.le_refl _)).more hb3.size)
    have HB := hid (bchain HB.out hb3)
    have l1 : w1.heap.size < w3.heap.size := X1.out.lt
    have x1 : w3.cell? ⟨w1.heap.size, 0, none⟩ = some (.slice A1 n1 c1) := bx_p0 X1.out
    have y1 : w3.cell? ⟨w1.heap.size, 1, none⟩ = some (.slice B1 m1 d1) := bx_p1 X1.out
    have hal : Below w3.heap.size w3 (w3.alloc (Obj.cells #[.slice A2 0 c2, .slice B2 0 d2] 35)) := (by repeat' (first | exact Below.refl _ _ | (with_reducible assumption) | (with_reducible refine Below.alloc ?_ ?_ _) | (with_reducible refine Below.setCell ?_ ?_ _) | (with_reducible refine Below.drew ?_) | (with_reducible refine below_drewN ?_ _) | (refine Below.trans ?_ (Below.mono (by assumption) ?_)) | (with_reducible exact Nat.le_refl _) | (with_reducible assumption) | (exact Below.size (by assumption)) | omega | go_size | (simp at *; omega)))
    have X1 := hid (X1.out.alloc (Obj.cells #[.slice A2 0 c2, .slice B2 0 d2] 35))
    have M1 := hid ((M1.out.below hal (Nat.le_refl _)).more hal.size)
    have N1 := hid ((N1.out.below hal (Nat.le_refl _)).more hal.size)
    have X2 := hid (Bx.new w3 35 #[.slice A2 0 c2, .slice B2 0 d2])
    have M2 := hid ((HO2.out.below hal (Nat.le_refl _)).more hal.size)
    have N2 := hid ((HP2.out.below hal (Nat.le_refl _)).more hal.size)
    have HB := hid (bchain HB.out hal)
    clear hal
    clear hb3
    clear HO2 HP2
    go_wp2_with fail
    refine (DrawReadPassing_any A n c xs _ (by omega) hX.out (hR.out _ HB.out)).mono ?_
    rintro e w4 ⟨⟨S, hS, rfl⟩, hb4⟩
    try clear l1 l2
    try clear x1 y1 x2 y2
    have X1 := hid (X1.out.below hb4 X1.out.lt)
    have M1 := hid ((M1.out.below hb4 (Nat.le_refl _)).more hb4.size)
    have N1 := hid ((N1.out.below hb4 (Nat.le_refl _)).more hb4.size)
    have X2 := hid (X2.out.below hb4 X2.out.lt)
    have M2 := hid ((M2.out.below hb4 (Nat.le_refl _)).more hb4.size)
    have N2 := hid ((N2.out.below hb4 (Nat.le_refl _)).more hb4.size)
    have HB := hid (bchain HB.out hb4)
    have l1 : w1.heap.size < w4.heap.size := X1.out.lt
    have x1 : w4.cell? ⟨w1.heap.size, 0, none⟩ = some (.slice A1 n1 c1) := bx_p0 X1.out
    have y1 : w4.cell? ⟨w1.heap.size, 1, none⟩ = some (.slice B1 m1 d1) := bx_p1 X1.out
    have l2 : w3.heap.size < w4.heap.size := X2.out.lt
    have x2 : w4.cell? ⟨w3.heap.size, 0, none⟩ = some (.slice A2 0 c2) := bx_p0 X2.out
    have y2 : w4.cell? ⟨w3.heap.size, 1, none⟩ = some (.slice B2 0 d2) := bx_p1 X2.out
    clear hb4
    obtain ⟨⟨R, one⟩, hR2⟩ : ∃ x, rReadPassing (tl S) = x := ⟨_, rfl⟩
    have HRL := hid (rReadP_len hR2)
    have HR := hid hR2
    have hRn : R.1.length ≤ 8 := HRL.out.1
    have hRm : R.2.length ≤ 8 := HRL.out.2
    have hSS := toList_eqq S
    clear hR2
    have hC := ReadPassing_any S w4 (by first | omega | decide)
    rw [HR.out] at hC
    replace hC := hid hC
    go_wp2_with fail
    refine (hC.out).mono ?_
    rintro e w5 ⟨⟨A3, c3, B3, d3, _, _, rfl, ho3, hp3⟩, hb5⟩
    try clear l1 l2
    try clear x1 y1 x2 y2
    clear hC
    simp only at ho3 hp3
    have HO3 := hid (Rd.of_own ho3)
    have HP3 := hid (Rd.of_own hp3)
    clear ho3 hp3
    have X1 := hid (X1.out.below hb5 X1.out.lt)
    have M1 := hid ((M1.out.below hb5 (Nat.le_refl _)).more hb5.size)
    have N1 := hid ((N1.out.below hb5 (Nat.le_refl _)).more hb5.size)
    have X2 := hid (X2.out.below hb5 X2.out.lt)
    have M2 := hid ((M2.out.below hb5 (Nat.le_refl _)).more hb5.size)
    have N2 := hid ((N2.out.below hb5 (Nat.le_refl _)).more hb5.size)
    have HB := hid (bchain HB.out hb5)
    have l1 : w1.heap.size < w5.heap.size := X1.out.lt
    have x1 : w5.cell? ⟨w1.heap.size, 0, none⟩ = some (.slice A1 n1 c1) := bx_p0 X1.out
    have y1 : w5.cell? ⟨w1.heap.size, 1, none⟩ = some (.slice B1 m1 d1) := bx_p1 X1.out
    have l2 : w3.heap.size < w5.heap.size := X2.out.lt
    have x2 : w5.cell? ⟨w3.heap.size, 0, none⟩ = some (.slice A2 0 c2) := bx_p0 X2.out
    have y2 : w5.cell? ⟨w3.heap.size, 1, none⟩ = some (.slice B2 0 d2) := bx_p1 X2.out
    have hal : Below w5.heap.size w5 (w5.alloc (Obj.cells #[.slice A3 R.1.length c3, .slice B3 R.2.length d3] 35)) := (by repeat' (first | exact Below.refl _ _ | (with_reducible assumption) | (with_reducible refine Below.alloc ?_ ?_ _) | (with_reducible refine Below.setCell ?_ ?_ _) | (with_reducible refine Below.drew ?_) | (with_reducible refine below_drewN ?_ _) | (refine Below.trans ?_ (Below.mono (by assumption) ?_)) | (with_reducible exact Nat.le_refl _) | (with_reducible assumption) | (exact Below.size (by assumption)) | omega | go_size | (simp at *; omega)))
    have X1 := hid (X1.out.alloc (Obj.cells #[.slice A3 R.1.length c3, .slice B3 R.2.length d3] 35))
    have M1 := hid ((M1.out.below hal (Nat.le_refl _)).more hal.size)
    have N1 := hid ((N1.out.below hal (Nat.le_refl _)).more hal.size)
    have X2 := hid (X2.out.alloc (Obj.cells #[.slice A3 R.1.length c3, .slice B3 R.2.length d3] 35))
    have M2 := hid ((M2.out.below hal (Nat.le_refl _)).more hal.size)
    have N2 := hid ((N2.out.below hal (Nat.le_refl _)).more hal.size)
    have X3 := hid (Bx.new w5 35 #[.slice A3 R.1.length c3, .slice B3 R.2.length d3])
    have M3 := hid ((HO3.out.below hal (Nat.le_refl _)).more hal.size)
    have N3 := hid ((HP3.out.below hal (Nat.le_refl _)).more hal.size)
    have HB := hid (bchain HB.out hal)
    clear hal
    clear hb5
    clear HO3 HP3
    have hC := specReadPassing_any S (w5.alloc (Obj.cells #[.slice A3 R.1.length c3, .slice B3 R.2.length d3] 35)) (by first | omega | decide)
    rw [HR.out] at hC
    replace hC := hid hC
    go_wp2_with fail
    refine (hC.out).mono ?_
    rintro e w6 ⟨⟨A4, c4, B4, d4, _, _, rfl, ho4, hp4⟩, hb6⟩
    try clear l1 l2 l3
    try clear x1 y1 x2 y2 x3 y3
    clear hC
    simp only at ho4 hp4
    have HO4 := hid (Rd.of_own ho4)
    have HP4 := hid (Rd.of_own hp4)
    clear ho4 hp4
    have X1 := hid (X1.out.below hb6 X1.out.lt)
    have M1 := hid ((M1.out.below hb6 (Nat.le_refl _)).more hb6.size)
    have N1 := hid ((N1.out.below hb6 (Nat.le_refl _)).more hb6.size)
    have X2 := hid (X2.out.below hb6 X2.out.lt)
    have M2 := hid ((M2.out.below hb6 (Nat.le_refl _)).more hb6.size)
    have N2 := hid ((N2.out.below hb6 (Nat.le_refl _)).more hb6.size)
    have X3 := hid (X3.out.below hb6 X3.out.lt)
    have M3 := hid ((M3.out.below hb6 (Nat.le_refl _)).more hb6.size)
    have N3 := hid ((N3.out.below hb6 (Nat.le_refl _)).more hb6.size)
    have HB := hid (bchain HB.out hb6)
    have l1 : w1.heap.size < w6.heap.size := X1.out.lt
    have x1 : w6.cell? ⟨w1.heap.size, 0, none⟩ = some (.slice A1 n1 c1) := bx_p0 X1.out
    have y1 : w6.cell? ⟨w1.heap.size, 1, none⟩ = some (.slice B1 m1 d1) := bx_p1 X1.out
    have l2 : w3.heap.size < w6.heap.size := X2.out.lt
    have x2 : w6.cell? ⟨w3.heap.size, 0, none⟩ = some (.slice A2 0 c2) := bx_p0 X2.out
    have y2 : w6.cell? ⟨w3.heap.size, 1, none⟩ = some (.slice B2 0 d2) := bx_p1 X2.out
    have l3 : w5.heap.size < w6.heap.size := X3.out.lt
    have x3 : w6.cell? ⟨w5.heap.size, 0, none⟩ = some (.slice A3 R.1.length c3) := bx_p0 X3.out
    have y3 : w6.cell? ⟨w5.heap.size, 1, none⟩ = some (.slice B3 R.2.length d3) := bx_p1 X3.out
    have hal : Below w6.heap.size w6 (w6.alloc (Obj.cells #[.slice A4 R.1.length c4, .slice B4 R.2.length d4] 35)) := (by repeat' (first | exact Below.refl _ _ | (with_reducible assumption) | (with_reducible refine Below.alloc ?_ ?_ _) | (with_reducible refine Below.setCell ?_ ?_ _) | (with_reducible refine Below.drew ?_) | (with_reducible refine below_drewN ?_ _) | (refine Below.trans ?_ (Below.mono (by assumption) ?_)) | (with_reducible exact Nat.le_refl _) | (with_reducible assumption) | (exact Below.size (by assumption)) | omega | go_size | (simp at *; omega)))
    have X1 := hid (X1.out.alloc (Obj.cells #[.slice A4 R.1.length c4, .slice B4 R.2.length d4] 35))
    have M1 := hid ((M1.out.below hal (Nat.le_refl _)).more hal.size)
    have N1 := hid ((N1.out.below hal (Nat.le_refl _)).more hal.size)
    have X2 := hid (X2.out.alloc (Obj.cells #[.slice A4 R.1.length c4, .slice B4 R.2.length d4] 35))
    have M2 := hid ((M2.out.below hal (Nat.le_refl _)).more hal.size)
    have N2 := hid ((N2.out.below hal (Nat.le_refl _)).more hal.size)
    have X3 := hid (X3.out.alloc (Obj.cells #[.slice A4 R.1.length c4, .slice B4 R.2.length d4] 35))
    have M3 := hid ((M3.out.below hal (Nat.le_refl _)).more hal.size)
    have N3 := hid ((N3.out.below hal (Nat.le_refl _)).more hal.size)
    have X4 := hid (Bx.new w6 35 #[.slice A4 R.1.length c4, .slice B4 R.2.length d4])
    have M4 := hid ((HO4.out.below hal (Nat.le_refl _)).more hal.size)
    have N4 := hid ((HP4.out.below hal (Nat.le_refl _)).more hal.size)
    have HB := hid (bchain HB.out hal)
    clear hal
    clear hb6
    clear HO4 HP4
    go_wp2_with fail
    refine (DrawSamePassing_any A n c xs _ (by omega) hX.out (hR.out _ HB.out)).mono ?_
    rintro e w7 ⟨⟨A5, n5, c5, B5, m5, d5, A6, n6, c6, B6, m6, d6, rfl, ⟨p5, hu1, hu2, hu3, hu4⟩, ⟨p6, hv1, hv2, hv3, hv4⟩⟩, hb7⟩
    try clear l1 l2 l3 l4
    try clear x1 y1 x2 y2 x3 y3 x4 y4
    have HO5 := hid hu1.rd
    have HP5 := hid hu2.rd
    have HO6 := hid hv1.rd
    have HP6 := hid hv2.rd
    clear hu1 hu2 hv1 hv2
    have X1 := hid (X1.out.below hb7 X1.out.lt)
    have M1 := hid ((M1.out.below hb7 (Nat.le_refl _)).more hb7.size)
    have N1 := hid ((N1.out.below hb7 (Nat.le_refl _)).more hb7.size)
    have X2 := hid (X2.out.below hb7 X2.out.lt)
    have M2 := hid ((M2.out.below hb7 (Nat.le_refl _)).more hb7.size)
    have N2 := hid ((N2.out.below hb7 (Nat.le_refl _)).more hb7.size)
    have X3 := hid (X3.out.below hb7 X3.out.lt)
    have M3 := hid ((M3.out.below hb7 (Nat.le_refl _)).more hb7.size)
    have N3 := hid ((N3.out.below hb7 (Nat.le_refl _)).more hb7.size)
    have X4 := hid (X4.out.below hb7 X4.out.lt)
    have M4 := hid ((M4.out.below hb7 (Nat.le_refl _)).more hb7.size)
    have N4 := hid ((N4.out.below hb7 (Nat.le_refl _)).more hb7.size)
    have HB := hid (bchain HB.out hb7)
    have l1 : w1.heap.size < w7.heap.size := X1.out.lt
    have x1 : w7.cell? ⟨w1.heap.size, 0, none⟩ = some (.slice A1 n1 c1) := bx_p0 X1.out
    have y1 : w7.cell? ⟨w1.heap.size, 1, none⟩ = some (.slice B1 m1 d1) := bx_p1 X1.out
    have l2 : w3.heap.size < w7.heap.size := X2.out.lt
    have x2 : w7.cell? ⟨w3.heap.size, 0, none⟩ = some (.slice A2 0 c2) := bx_p0 X2.out
    have y2 : w7.cell? ⟨w3.heap.size, 1, none⟩ = some (.slice B2 0 d2) := bx_p1 X2.out
    have l3 : w5.heap.size < w7.heap.size := X3.out.lt
    have x3 : w7.cell? ⟨w5.heap.size, 0, none⟩ = some (.slice A3 R.1.length c3) := bx_p0 X3.out
    have y3 : w7.cell? ⟨w5.heap.size, 1, none⟩ = some (.slice B3 R.2.length d3) := bx_p1 X3.out
    have l4 : w6.heap.size < w7.heap.size := X4.out.lt
    have x4 : w7.cell? ⟨w6.heap.size, 0, none⟩ = some (.slice A4 R.1.length c4) := bx_p0 X4.out
    have y4 : w7.cell? ⟨w6.heap.size, 1, none⟩ = some (.slice B4 R.2.length d4) := bx_p1 X4.out
    have hal : Below w7.heap.size w7 (w7.alloc (Obj.cells #[.slice A5 n5 c5, .slice B5 m5 d5] 35)) := (by repeat' (first | exact Below.refl _ _ | (with_reducible assumption) | (with_reducible refine Below.alloc ?_ ?_ _) | (with_reducible refine Below.setCell ?_ ?_ _) | (with_reducible refine Below.drew ?_) | (with_reducible refine below_drewN ?_ _) | (refine Below.trans ?_ (Below.mono (by assumption) ?_)) | (with_reducible exact Nat.le_refl _) | (with_reducible assumption) | (exact Below.size (by assumption)) | omega | go_size | (simp at *; omega)))
    have X1 := hid (X1.out.alloc (Obj.cells #[.slice A5 n5 c5, .slice B5 m5 d5] 35))
    have M1 := hid ((M1.out.below hal (Nat.le_refl _)).more hal.size)
    have N1 := hid ((N1.out.below hal (Nat.le_refl _)).more hal.size)
    have X2 := hid (X2.out.alloc (Obj.cells #[.slice A5 n5 c5, .slice B5 m5 d5] 35))
    have M2 := hid ((M2.out.below hal (Nat.le_refl _)).more hal.size)
    have N2 := hid ((N2.out.below hal (Nat.le_refl _)).more hal.size)
    have X3 := hid (X3.out.alloc (Obj.cells #[.slice A5 n5 c5, .slice B5 m5 d5] 35))
    have M3 := hid ((M3.out.below hal (Nat.le_refl _)).more hal.size)
    have N3 := hid ((N3.out.below hal (Nat.le_refl _)).more hal.size)
    have X4 := hid (X4.out.alloc (Obj.cells #[.slice A5 n5 c5, .slice B5 m5 d5] 35))
    have M4 := hid ((M4.out.below hal (Nat.le_refl _)).more hal.size)
    have N4 := hid ((N4.out.below hal (Nat.le_refl _)).more hal.size)
    have HO6 := hid ((HO6.out.below hal (Nat.le_refl _)).more hal.size)
    have HP6 := hid ((HP6.out.below hal (Nat.le_refl _)).more hal.size)
    have X5 := hid (Bx.new w7 35 #[.slice A5 n5 c5, .slice B5 m5 d5])
    have M5 := hid ((HO5.out.below hal (Nat.le_refl _)).more hal.size)
    have N5 := hid ((HP5.out.below hal (Nat.le_refl _)).more hal.size)
    have HB := hid (bchain HB.out hal)
    clear hal
    have hal : Below (w7.alloc (Obj.cells #[.slice A5 n5 c5, .slice B5 m5 d5] 35)).heap.size (w7.alloc (Obj.cells #[.slice A5 n5 c5, .slice B5 m5 d5] 35)) ((w7.alloc (Obj.cells #[.slice A5 n5 c5, .slice B5 m5 d5] 35)).alloc (Obj.cells #[.slice A6 n6 c6, .slice B6 m6 d6] 35)) := (by repeat' (first | exact Below.refl _ _ | (with_reducible assumption) | (with_reducible refine Below.alloc ?_ ?_ _) | (with_reducible refine Below.setCell ?_ ?_ _) | (with_reducible refine Below.drew ?_) | (with_reducible refine below_drewN ?_ _) | (refine Below.trans ?_ (Below.mono (by assumption) ?_)) | (with_reducible exact Nat.le_refl _) | (with_reducible assumption) | (exact Below.size (by assumption)) | omega | go_size | (simp at *; omega)))
    have X1 := hid (X1.out.alloc (Obj.cells #[.slice A6 n6 c6, .slice B6 m6 d6] 35))
    have M1 := hid ((M1.out.below hal (Nat.le_refl _)).more hal.size)
    have N1 := hid ((N1.out.below hal (Nat.le_refl _)).more hal.size)
    have X2 := hid (X2.out.alloc (Obj.cells #[.slice A6 n6 c6, .slice B6 m6 d6] 35))
    have M2 := hid ((M2.out.below hal (Nat.le_refl _)).more hal.size)
    have N2 := hid ((N2.out.below hal (Nat.le_refl _)).more hal.size)
    have X3 := hid (X3.out.alloc (Obj.cells #[.slice A6 n6 c6, .slice B6 m6 d6] 35))
    have M3 := hid ((M3.out.below hal (Nat.le_refl _)).more hal.size)
    have N3 := hid ((N3.out.below hal (Nat.le_refl _)).more hal.size)
    have X4 := hid (X4.out.alloc (Obj.cells #[.slice A6 n6 c6, .slice B6 m6 d6] 35))
    have M4 := hid ((M4.out.below hal (Nat.le_refl _)).more hal.size)
    have N4 := hid ((N4.out.below hal (Nat.le_refl _)).more hal.size)
    have X5 := hid (X5.out.alloc (Obj.cells #[.slice A6 n6 c6, .slice B6 m6 d6] 35))
    have M5 := hid ((M5.out.below hal (Nat.le_refl _)).more hal.size)
    have N5 := hid ((N5.out.below hal (Nat.le_refl _)).more hal.size)
    have X6 := hid (Bx.new (w7.alloc (Obj.cells #[.slice A5 n5 c5, .slice B5 m5 d5] 35)) 35 #[.slice A6 n6 c6, .slice B6 m6 d6])
    have M6 := hid ((HO6.out.below hal (Nat.le_refl _)).more hal.size)
    have N6 := hid ((HP6.out.below hal (Nat.le_refl _)).more hal.size)
    have HB := hid (bchain HB.out hal)
    clear hal
    have hzq : (w7.alloc (Obj.cells #[.slice A5 n5 c5, .slice B5 m5 d5] 35)).heap.size = w7.heap.size + 1 := by simp
    rw [hzq] at X6
    clear hzq
    clear hb7
    clear HO5 HP5 HO6 HP6
    cases one with
    | true =>
      have HRT : Hid (st (rPassingText R) = S) := by
        have h2 : (rReadPassing (tl S)).2 = true := by rw [HR.out]
        have := passing_back _ h2
        rw [HR.out] at this
        show _ = _
        rw [this]; exact st_tl S
      obtain ⟨sb, hsb⟩ : ∃ sb, decide (p5 = p6) = sb := ⟨_, rfl⟩
      have HSB := hid hsb
      clear hsb
      have q9 : (sb == sb) = true := by simp
      go_wp2
      obtain ⟨W, hW⟩ : ∃ W, ((w7.alloc (Obj.cells #[.slice A5 n5 c5, .slice B5 m5 d5] 35)).alloc (Obj.cells #[.slice A6 n6 c6, .slice B6 m6 d6] 35)) = W := ⟨_, rfl⟩
      rw [hW] at HB X1 M1 N1 X2 M2 N2 X3 M3 N3 X4 M4 N4 X5 M5 N5 X6 M6 N6 ⊢
      clear hW
      try clear l1 l2 l3 l4 l5 l6
      try clear x1 y1 x2 y2 x3 y3 x4 y4 x5 y5 x6 y6
      have hS := hid (fun (w9 : World) (b : Below W.heap.size W w9) => (⟨b, (b.cell (p := ⟨w1.heap.size, 0, none⟩) X1.out.lt).trans (bx_p0 X1.out), (b.cell (p := ⟨w1.heap.size, 1, none⟩) X1.out.lt).trans (bx_p1 X1.out), (b.cell (p := ⟨w3.heap.size, 0, none⟩) X2.out.lt).trans (bx_p0 X2.out), (b.cell (p := ⟨w3.heap.size, 1, none⟩) X2.out.lt).trans (bx_p1 X2.out), (b.cell (p := ⟨w5.heap.size, 0, none⟩) X3.out.lt).trans (bx_p0 X3.out), (b.cell (p := ⟨w5.heap.size, 1, none⟩) X3.out.lt).trans (bx_p1 X3.out), (b.cell (p := ⟨w6.heap.size, 0, none⟩) X4.out.lt).trans (bx_p0 X4.out), (b.cell (p := ⟨w6.heap.size, 1, none⟩) X4.out.lt).trans (bx_p1 X4.out), (b.cell (p := ⟨w7.heap.size, 0, none⟩) X5.out.lt).trans (bx_p0 X5.out), (b.cell (p := ⟨w7.heap.size, 1, none⟩) X5.out.lt).trans (bx_p1 X5.out), (b.cell (p := ⟨(w7.heap.size + 1), 0, none⟩) X6.out.lt).trans (bx_p0 X6.out), (b.cell (p := ⟨(w7.heap.size + 1), 1, none⟩) X6.out.lt).trans (bx_p1 X6.out)⟩ : Below W.heap.size W w9 ∧ w9.cell? ⟨w1.heap.size, 0, none⟩ = some (.slice A1 n1 c1) ∧ w9.cell? ⟨w1.heap.size, 1, none⟩ = some (.slice B1 m1 d1) ∧ w9.cell? ⟨w3.heap.size, 0, none⟩ = some (.slice A2 0 c2) ∧ w9.cell? ⟨w3.heap.size, 1, none⟩ = some (.slice B2 0 d2) ∧ w9.cell? ⟨w5.heap.size, 0, none⟩ = some (.slice A3 R.1.length c3) ∧ w9.cell? ⟨w5.heap.size, 1, none⟩ = some (.slice B3 R.2.length d3) ∧ w9.cell? ⟨w6.heap.size, 0, none⟩ = some (.slice A4 R.1.length c4) ∧ w9.cell? ⟨w6.heap.size, 1, none⟩ = some (.slice B4 R.2.length d4) ∧ w9.cell? ⟨w7.heap.size, 0, none⟩ = some (.slice A5 n5 c5) ∧ w9.cell? ⟨w7.heap.size, 1, none⟩ = some (.slice B5 m5 d5) ∧ w9.cell? ⟨(w7.heap.size + 1), 0, none⟩ = some (.slice A6 n6 c6) ∧ w9.cell? ⟨(w7.heap.size + 1), 1, none⟩ = some (.slice B6 m6 d6)))
      have l1 : w1.heap.size < W.heap.size := X1.out.lt
      have x1 : W.cell? ⟨w1.heap.size, 0, none⟩ = some (.slice A1 n1 c1) := bx_p0 X1.out
      have y1 : W.cell? ⟨w1.heap.size, 1, none⟩ = some (.slice B1 m1 d1) := bx_p1 X1.out
      have l2 : w3.heap.size < W.heap.size := X2.out.lt
      have x2 : W.cell? ⟨w3.heap.size, 0, none⟩ = some (.slice A2 0 c2) := bx_p0 X2.out
      have y2 : W.cell? ⟨w3.heap.size, 1, none⟩ = some (.slice B2 0 d2) := bx_p1 X2.out
      have l3 : w5.heap.size < W.heap.size := X3.out.lt
      have x3 : W.cell? ⟨w5.heap.size, 0, none⟩ = some (.slice A3 R.1.length c3) := bx_p0 X3.out
      have y3 : W.cell? ⟨w5.heap.size, 1, none⟩ = some (.slice B3 R.2.length d3) := bx_p1 X3.out
      have l4 : w6.heap.size < W.heap.size := X4.out.lt
      have x4 : W.cell? ⟨w6.heap.size, 0, none⟩ = some (.slice A4 R.1.length c4) := bx_p0 X4.out
      have y4 : W.cell? ⟨w6.heap.size, 1, none⟩ = some (.slice B4 R.2.length d4) := bx_p1 X4.out
      have l5 : w7.heap.size < W.heap.size := X5.out.lt
      have x5 : W.cell? ⟨w7.heap.size, 0, none⟩ = some (.slice A5 n5 c5) := bx_p0 X5.out
      have y5 : W.cell? ⟨w7.heap.size, 1, none⟩ = some (.slice B5 m5 d5) := bx_p1 X5.out
      have l6 : (w7.heap.size + 1) < W.heap.size := X6.out.lt
      have x6 : W.cell? ⟨(w7.heap.size + 1), 0, none⟩ = some (.slice A6 n6 c6) := bx_p0 X6.out
      have y6 : W.cell? ⟨(w7.heap.size + 1), 1, none⟩ = some (.slice B6 m6 d6) := bx_p1 X6.out
      have hT1 : Hid (∀ w9 : World, Below W.heap.size W w9 → Calls Try.prog 23 #[.agg #[.slice A1 n1 c1, .slice B1 m1 d1]] w9 fun e w' => e = .returned (.string ⟨#[]⟩) ∧ Below w9.heap.size w9 w') := by
        refine hid fun w9 b => ?_
        have h := specPassingText_any A1 B1 n1 c1 m1 d1 p w9 (by omega) (by omega) ((M1.out.below b (Nat.le_refl _)).more b.size) ((N1.out.below b (Nat.le_refl _)).more b.size)
        rw [HT.out] at h
        exact h
      have hT3 : Hid (∀ w9 : World, Below W.heap.size W w9 → Calls Try.prog 24 #[.agg #[.slice A3 R.1.length c3, .slice B3 R.2.length d3], .agg #[.slice A4 R.1.length c4, .slice B4 R.2.length d4]] w9 fun e w' => e = .returned (.bool true) ∧ Below w9.heap.size w9 w') := by
        refine hid fun w9 b => ?_
        have h := specSamePassing_any A3 B3 A4 B4 R.1.length c3 R.2.length d3 R.1.length c4 R.2.length d4 R R w9 (by omega) (by omega) (by omega) (by omega) ((M3.out.below b (Nat.le_refl _)).more b.size) ((N3.out.below b (Nat.le_refl _)).more b.size) ((M4.out.below b (Nat.le_refl _)).more b.size) ((N4.out.below b (Nat.le_refl _)).more b.size)
        rw [same_psg] at h
        exact h
      have hT4 : Hid (∀ w9 : World, Below W.heap.size W w9 → Calls Try.prog 18 #[.agg #[.slice A3 R.1.length c3, .slice B3 R.2.length d3]] w9 fun e w' => e = .returned (.string S) ∧ Below w9.heap.size w9 w') := by
        refine hid fun w9 b => ?_
        have h := PassingText_any A3 B3 R.1.length c3 R.2.length d3 R w9 (by omega) (by omega) ((M3.out.below b (Nat.le_refl _)).more b.size) ((N3.out.below b (Nat.le_refl _)).more b.size)
        rw [HRT.out] at h
        exact h
      have hT5 : Hid (∀ w9 : World, Below W.heap.size W w9 → Calls Try.prog 25 #[.agg #[.slice A5 n5 c5, .slice B5 m5 d5], .agg #[.slice A6 n6 c6, .slice B6 m6 d6]] w9 fun e w' => e = .returned (.bool sb) ∧ Below w9.heap.size w9 w') := by
        refine hid fun w9 b => ?_
        have h := SamePassing_any A5 B5 A6 B6 n5 c5 m5 d5 n6 c6 m6 d6 p5 p6 w9 (by omega) (by omega) (by omega) (by omega) ((M5.out.below b (Nat.le_refl _)).more b.size) ((N5.out.below b (Nat.le_refl _)).more b.size) ((M6.out.below b (Nat.le_refl _)).more b.size) ((N6.out.below b (Nat.le_refl _)).more b.size)
        rw [HSB.out] at h
        exact h
      have hT6 : Hid (∀ w9 : World, Below W.heap.size W w9 → Calls Try.prog 24 #[.agg #[.slice A5 n5 c5, .slice B5 m5 d5], .agg #[.slice A6 n6 c6, .slice B6 m6 d6]] w9 fun e w' => e = .returned (.bool sb) ∧ Below w9.heap.size w9 w') := by
        refine hid fun w9 b => ?_
        have h := specSamePassing_any A5 B5 A6 B6 n5 c5 m5 d5 n6 c6 m6 d6 p5 p6 w9 (by omega) (by omega) (by omega) (by omega) ((M5.out.below b (Nat.le_refl _)).more b.size) ((N5.out.below b (Nat.le_refl _)).more b.size) ((M6.out.below b (Nat.le_refl _)).more b.size) ((N6.out.below b (Nat.le_refl _)).more b.size)
        rw [HSB.out] at h
        exact h
      have hBd : Below W.heap.size W W.drew := (Below.refl _ _).drew
      clear X1 M1 N1 X2 M2 N2 X3 M3 N3 X4 M4 N4 X5 M5 N5 X6 M6 N6
      refine wp_region_noPanic ?_
      refine wp_region_held_drew (S := fun w' => Below W.heap.size W w' ∧ w'.cell? ⟨w1.heap.size, 0, none⟩ = some (.slice A1 n1 c1) ∧ w'.cell? ⟨w1.heap.size, 1, none⟩ = some (.slice B1 m1 d1) ∧ w'.cell? ⟨w3.heap.size, 0, none⟩ = some (.slice A2 0 c2) ∧ w'.cell? ⟨w3.heap.size, 1, none⟩ = some (.slice B2 0 d2) ∧ w'.cell? ⟨w5.heap.size, 0, none⟩ = some (.slice A3 R.1.length c3) ∧ w'.cell? ⟨w5.heap.size, 1, none⟩ = some (.slice B3 R.2.length d3) ∧ w'.cell? ⟨w6.heap.size, 0, none⟩ = some (.slice A4 R.1.length c4) ∧ w'.cell? ⟨w6.heap.size, 1, none⟩ = some (.slice B4 R.2.length d4) ∧ w'.cell? ⟨w7.heap.size, 0, none⟩ = some (.slice A5 n5 c5) ∧ w'.cell? ⟨w7.heap.size, 1, none⟩ = some (.slice B5 m5 d5) ∧ w'.cell? ⟨(w7.heap.size + 1), 0, none⟩ = some (.slice A6 n6 c6) ∧ w'.cell? ⟨(w7.heap.size + 1), 1, none⟩ = some (.slice B6 m6 d6)) (by kernel_rfl) ?_ (fun hHeld => ?_)
      · with_reducible exact hS.out _ hBd
      refine wpAnyH_take (i := 0) (v := ?_) (arr_get at_zero) (by kernel_rfl) (by kernel_rfl) (by kernel_rfl) (fun _ _ _ h => h) (Or.inl ⟨by rfl, ?_⟩) (by assumption) ?_
      rotate_left
      · intro w9 hSw
        try dsimp only at hSw
        go_simp
        all_goals with_reducible rfl
      try simp only [Act.put, List.setIfInBounds_toArray, List.set_cons_zero, List.set_cons_succ]
      refine wpAnyH_take (i := 1) (v := ?_) (arr_get (at_succ at_zero)) (by kernel_rfl) (by kernel_rfl) (by kernel_rfl) (fun _ _ _ h => h) (Or.inl ⟨by rfl, ?_⟩) (by assumption) ?_
      rotate_left
      · intro w9 hSw
        try dsimp only at hSw
        go_simp
        all_goals with_reducible rfl
      try simp only [Act.put, List.setIfInBounds_toArray, List.set_cons_zero, List.set_cons_succ]
      refine wpAnyH_ready (rs := [2]) (by kernel_rfl) (by simp) ?_
      refine AllReadyH.cons (arr_get (at_succ (at_succ at_zero))) (fun K hK => ?_) AllReadyH.nil
      go_simp
      go_at_call 23
      with_reducible refine (hT1.out _ (by assumption)).mono ?_
      rintro e w5 ⟨rfl, hb5⟩
      have hB5 := bchain (show Below W.heap.size W _ by assumption) hb5
      try go_wp2_with fail
      refine hK.out _ _ (by (try dsimp only); with_reducible exact hS.out _ hB5) (fun hHeld => ?_)
      clear hK K
      try simp only [Act.put, List.setIfInBounds_toArray, List.set_cons_zero, List.set_cons_succ]
      refine wpAnyH_take (i := 3) (v := ?_) (arr_get (at_succ (at_succ (at_succ at_zero)))) (by kernel_rfl) (by kernel_rfl) (by kernel_rfl) (fun _ _ _ h => h) (Or.inl ⟨by rfl, ?_⟩) (by assumption) ?_
      rotate_left
      · intro w9 hSw
        try dsimp only at hSw
        go_simp
        all_goals with_reducible rfl
      try simp only [Act.put, List.setIfInBounds_toArray, List.set_cons_zero, List.set_cons_succ]
      refine wpAnyH_take (i := 4) (v := ?_) (arr_get (at_succ (at_succ (at_succ (at_succ at_zero))))) (by kernel_rfl) (by kernel_rfl) (by kernel_rfl) (fun _ _ _ h => h) (Or.inl ⟨by rfl, ?_⟩) (by assumption) ?_
      rotate_left
      · intro w9 hSw
        try dsimp only at hSw
        go_simp
        all_goals with_reducible rfl
      try simp only [Act.put, List.setIfInBounds_toArray, List.set_cons_zero, List.set_cons_succ]
      refine wpAnyH_take (i := 5) (v := ?_) (arr_get (at_succ (at_succ (at_succ (at_succ (at_succ at_zero)))))) (by kernel_rfl) (by kernel_rfl) (by kernel_rfl) (fun _ _ _ h => h) (Or.inl ⟨by rfl, ?_⟩) (by assumption) ?_
      rotate_left
      · intro w9 hSw
        try dsimp only at hSw
        go_simp
        all_goals with_reducible rfl
      try simp only [Act.put, List.setIfInBounds_toArray, List.set_cons_zero, List.set_cons_succ]
      refine wpAnyH_take (i := 6) (v := ?_) (arr_get (at_succ (at_succ (at_succ (at_succ (at_succ (at_succ at_zero))))))) (by kernel_rfl) (by kernel_rfl) (by kernel_rfl) (fun _ _ _ h => h) (Or.inl ⟨by rfl, ?_⟩) (by assumption) ?_
      rotate_left
      · intro w9 hSw
        try dsimp only at hSw
        go_simp
        all_goals with_reducible rfl
      try simp only [Act.put, List.setIfInBounds_toArray, List.set_cons_zero, List.set_cons_succ]
      refine wpAnyH_take (i := 7) (v := ?_) (arr_get (at_succ (at_succ (at_succ (at_succ (at_succ (at_succ (at_succ at_zero)))))))) (by kernel_rfl) (by kernel_rfl) (by kernel_rfl) (fun _ _ _ h => h) (Or.inl ⟨by rfl, ?_⟩) (by assumption) ?_
      rotate_left
      · intro w9 hSw
        try dsimp only at hSw
        go_simp
        all_goals with_reducible rfl
      try simp only [Act.put, List.setIfInBounds_toArray, List.set_cons_zero, List.set_cons_succ]
      refine wpAnyH_take (i := 8) (v := ?_) (arr_get (at_succ (at_succ (at_succ (at_succ (at_succ (at_succ (at_succ (at_succ at_zero))))))))) (by kernel_rfl) (by kernel_rfl) (by kernel_rfl) (fun _ _ _ h => h) (Or.inl ⟨by rfl, ?_⟩) (by assumption) ?_
      rotate_left
      · intro w9 hSw
        try dsimp only at hSw
        go_simp
        all_goals with_reducible rfl
      try simp only [Act.put, List.setIfInBounds_toArray, List.set_cons_zero, List.set_cons_succ]
      refine wpAnyH_take (i := 9) (v := ?_) (arr_get (at_succ (at_succ (at_succ (at_succ (at_succ (at_succ (at_succ (at_succ (at_succ at_zero)))))))))) (by kernel_rfl) (by kernel_rfl) (by kernel_rfl) (fun _ _ _ h => h) (Or.inl ⟨by rfl, ?_⟩) (by assumption) ?_
      rotate_left
      · intro w9 hSw
        try dsimp only at hSw
        go_simp
        all_goals with_reducible rfl
      try simp only [Act.put, List.setIfInBounds_toArray, List.set_cons_zero, List.set_cons_succ]
      refine wpAnyH_take (i := 10) (v := ?_) (arr_get (at_succ (at_succ (at_succ (at_succ (at_succ (at_succ (at_succ (at_succ (at_succ (at_succ at_zero))))))))))) (by kernel_rfl) (by kernel_rfl) (by kernel_rfl) (fun _ _ _ h => h) (Or.inl ⟨by rfl, ?_⟩) (by assumption) ?_
      rotate_left
      · intro w9 hSw
        try dsimp only at hSw
        go_simp
        all_goals with_reducible rfl
      try simp only [Act.put, List.setIfInBounds_toArray, List.set_cons_zero, List.set_cons_succ]
      refine wpAnyH_take (i := 11) (v := ?_) (arr_get (at_succ (at_succ (at_succ (at_succ (at_succ (at_succ (at_succ (at_succ (at_succ (at_succ (at_succ at_zero)))))))))))) (by kernel_rfl) (by kernel_rfl) (by kernel_rfl) (fun _ _ _ h => h) (Or.inl ⟨by rfl, ?_⟩) (by assumption) ?_
      rotate_left
      · intro w9 hSw
        try dsimp only at hSw
        go_simp
        all_goals with_reducible rfl
      try simp only [Act.put, List.setIfInBounds_toArray, List.set_cons_zero, List.set_cons_succ]
      refine wpAnyH_take (i := 12) (v := ?_) (arr_get (at_succ (at_succ (at_succ (at_succ (at_succ (at_succ (at_succ (at_succ (at_succ (at_succ (at_succ (at_succ at_zero))))))))))))) (by kernel_rfl) (by kernel_rfl) (by kernel_rfl) (fun _ _ _ h => h) (Or.inl ⟨by rfl, ?_⟩) (by assumption) ?_
      rotate_left
      · intro w9 hSw
        try dsimp only at hSw
        go_simp
        all_goals with_reducible rfl
      try simp only [Act.put, List.setIfInBounds_toArray, List.set_cons_zero, List.set_cons_succ]
      refine wpAnyH_take (i := 13) (v := ?_) (arr_get (at_succ (at_succ (at_succ (at_succ (at_succ (at_succ (at_succ (at_succ (at_succ (at_succ (at_succ (at_succ (at_succ at_zero)))))))))))))) (by kernel_rfl) (by kernel_rfl) (by kernel_rfl) (fun _ _ _ h => h) (Or.inl ⟨by rfl, ?_⟩) (by assumption) ?_
      rotate_left
      · intro w9 hSw
        try dsimp only at hSw
        go_simp
        all_goals with_reducible rfl
      try simp only [Act.put, List.setIfInBounds_toArray, List.set_cons_zero, List.set_cons_succ]
      refine wpAnyH_take (i := 14) (v := undef) (arr_get (at_succ (at_succ (at_succ (at_succ (at_succ (at_succ (at_succ (at_succ (at_succ (at_succ (at_succ (at_succ (at_succ (at_succ at_zero))))))))))))))) (by kernel_rfl) (by kernel_rfl) (by kernel_rfl) (fun _ _ _ h => h) (Or.inr ⟨by rfl, rfl⟩) (by assumption) ?_
      try simp only [Act.put, List.setIfInBounds_toArray, List.set_cons_zero, List.set_cons_succ]
      refine wpAnyH_take (i := 15) (v := undef) (arr_get (at_succ (at_succ (at_succ (at_succ (at_succ (at_succ (at_succ (at_succ (at_succ (at_succ (at_succ (at_succ (at_succ (at_succ (at_succ at_zero)))))))))))))))) (by kernel_rfl) (by kernel_rfl) (by kernel_rfl) (fun _ _ _ h => h) (Or.inr ⟨by rfl, rfl⟩) (by assumption) ?_
      try simp only [Act.put, List.setIfInBounds_toArray, List.set_cons_zero, List.set_cons_succ]
      refine wpAnyH_ready (rs := [16]) (by kernel_rfl) (by simp) ?_
      refine AllReadyH.cons (arr_get (at_succ (at_succ (at_succ (at_succ (at_succ (at_succ (at_succ (at_succ (at_succ (at_succ (at_succ (at_succ (at_succ (at_succ (at_succ (at_succ at_zero))))))))))))))))) (fun K hK => ?_) AllReadyH.nil
      go_simp
      refine hK.out _ _ (by (try dsimp only); assumption) (fun hHeld => ?_)
      clear hK K
      try simp only [Act.put, List.setIfInBounds_toArray, List.set_cons_zero, List.set_cons_succ]
      refine wpAnyH_take (i := 17) (v := ?_) (arr_get (at_succ (at_succ (at_succ (at_succ (at_succ (at_succ (at_succ (at_succ (at_succ (at_succ (at_succ (at_succ (at_succ (at_succ (at_succ (at_succ (at_succ at_zero)))))))))))))))))) (by kernel_rfl) (by kernel_rfl) (by kernel_rfl) (fun _ _ _ h => h) (Or.inl ⟨by rfl, ?_⟩) (by assumption) ?_
      rotate_left
      · intro w9 hSw
        try dsimp only at hSw
        go_simp
        all_goals with_reducible rfl
      try simp only [Act.put, List.setIfInBounds_toArray, List.set_cons_zero, List.set_cons_succ]
      refine wpAnyH_take (i := 18) (v := ?_) (arr_get (at_succ (at_succ (at_succ (at_succ (at_succ (at_succ (at_succ (at_succ (at_succ (at_succ (at_succ (at_succ (at_succ (at_succ (at_succ (at_succ (at_succ (at_succ at_zero))))))))))))))))))) (by kernel_rfl) (by kernel_rfl) (by kernel_rfl) (fun _ _ _ h => h) (Or.inl ⟨by rfl, ?_⟩) (by assumption) ?_
      rotate_left
      · intro w9 hSw
        try dsimp only at hSw
        go_simp
        all_goals with_reducible rfl
      try simp only [Act.put, List.setIfInBounds_toArray, List.set_cons_zero, List.set_cons_succ]
      refine wpAnyH_take (i := 19) (v := ?_) (arr_get (at_succ (at_succ (at_succ (at_succ (at_succ (at_succ (at_succ (at_succ (at_succ (at_succ (at_succ (at_succ (at_succ (at_succ (at_succ (at_succ (at_succ (at_succ (at_succ at_zero)))))))))))))))))))) (by kernel_rfl) (by kernel_rfl) (by kernel_rfl) (fun _ _ _ h => h) (Or.inl ⟨by rfl, ?_⟩) (by assumption) ?_
      rotate_left
      · intro w9 hSw
        try dsimp only at hSw
        go_simp
        all_goals with_reducible rfl
      try simp only [Act.put, List.setIfInBounds_toArray, List.set_cons_zero, List.set_cons_succ]
      refine wpAnyH_take (i := 20) (v := ?_) (arr_get (at_succ (at_succ (at_succ (at_succ (at_succ (at_succ (at_succ (at_succ (at_succ (at_succ (at_succ (at_succ (at_succ (at_succ (at_succ (at_succ (at_succ (at_succ (at_succ (at_succ at_zero))))))))))))))))))))) (by kernel_rfl) (by kernel_rfl) (by kernel_rfl) (fun _ _ _ h => h) (Or.inl ⟨by rfl, ?_⟩) (by assumption) ?_
      rotate_left
      · intro w9 hSw
        try dsimp only at hSw
        go_simp
        all_goals with_reducible rfl
      try simp only [Act.put, List.setIfInBounds_toArray, List.set_cons_zero, List.set_cons_succ]
      refine wpAnyH_take (i := 21) (v := ?_) (arr_get (at_succ (at_succ (at_succ (at_succ (at_succ (at_succ (at_succ (at_succ (at_succ (at_succ (at_succ (at_succ (at_succ (at_succ (at_succ (at_succ (at_succ (at_succ (at_succ (at_succ (at_succ at_zero)))))))))))))))))))))) (by kernel_rfl) (by kernel_rfl) (by kernel_rfl) (fun _ _ _ h => h) (Or.inl ⟨by rfl, ?_⟩) (by assumption) ?_
      rotate_left
      · intro w9 hSw
        try dsimp only at hSw
        go_simp
        all_goals with_reducible rfl
      try simp only [Act.put, List.setIfInBounds_toArray, List.set_cons_zero, List.set_cons_succ]
      refine wpAnyH_take (i := 22) (v := ?_) (arr_get (at_succ (at_succ (at_succ (at_succ (at_succ (at_succ (at_succ (at_succ (at_succ (at_succ (at_succ (at_succ (at_succ (at_succ (at_succ (at_succ (at_succ (at_succ (at_succ (at_succ (at_succ (at_succ at_zero))))))))))))))))))))))) (by kernel_rfl) (by kernel_rfl) (by kernel_rfl) (fun _ _ _ h => h) (Or.inl ⟨by rfl, ?_⟩) (by assumption) ?_
      rotate_left
      · intro w9 hSw
        try dsimp only at hSw
        go_simp
        all_goals with_reducible rfl
      try simp only [Act.put, List.setIfInBounds_toArray, List.set_cons_zero, List.set_cons_succ]
      refine wpAnyH_take (i := 23) (v := ?_) (arr_get (at_succ (at_succ (at_succ (at_succ (at_succ (at_succ (at_succ (at_succ (at_succ (at_succ (at_succ (at_succ (at_succ (at_succ (at_succ (at_succ (at_succ (at_succ (at_succ (at_succ (at_succ (at_succ (at_succ at_zero)))))))))))))))))))))))) (by kernel_rfl) (by kernel_rfl) (by kernel_rfl) (fun _ _ _ h => h) (Or.inl ⟨by rfl, ?_⟩) (by assumption) ?_
      rotate_left
      · intro w9 hSw
        try dsimp only at hSw
        go_simp
        all_goals with_reducible rfl
      try simp only [Act.put, List.setIfInBounds_toArray, List.set_cons_zero, List.set_cons_succ]
      refine wpAnyH_take (i := 24) (v := ?_) (arr_get (at_succ (at_succ (at_succ (at_succ (at_succ (at_succ (at_succ (at_succ (at_succ (at_succ (at_succ (at_succ (at_succ (at_succ (at_succ (at_succ (at_succ (at_succ (at_succ (at_succ (at_succ (at_succ (at_succ (at_succ at_zero))))))))))))))))))))))))) (by kernel_rfl) (by kernel_rfl) (by kernel_rfl) (fun _ _ _ h => h) (Or.inl ⟨by rfl, ?_⟩) (by assumption) ?_
      rotate_left
      · intro w9 hSw
        try dsimp only at hSw
        go_simp
        all_goals with_reducible rfl
      try simp only [Act.put, List.setIfInBounds_toArray, List.set_cons_zero, List.set_cons_succ]
      refine wpAnyH_take (i := 25) (v := ?_) (arr_get (at_succ (at_succ (at_succ (at_succ (at_succ (at_succ (at_succ (at_succ (at_succ (at_succ (at_succ (at_succ (at_succ (at_succ (at_succ (at_succ (at_succ (at_succ (at_succ (at_succ (at_succ (at_succ (at_succ (at_succ (at_succ at_zero)))))))))))))))))))))))))) (by kernel_rfl) (by kernel_rfl) (by kernel_rfl) (fun _ _ _ h => h) (Or.inl ⟨by rfl, ?_⟩) (by assumption) ?_
      rotate_left
      · intro w9 hSw
        try dsimp only at hSw
        go_simp
        all_goals with_reducible rfl
      try simp only [Act.put, List.setIfInBounds_toArray, List.set_cons_zero, List.set_cons_succ]
      refine wpAnyH_take (i := 26) (v := ?_) (arr_get (at_succ (at_succ (at_succ (at_succ (at_succ (at_succ (at_succ (at_succ (at_succ (at_succ (at_succ (at_succ (at_succ (at_succ (at_succ (at_succ (at_succ (at_succ (at_succ (at_succ (at_succ (at_succ (at_succ (at_succ (at_succ (at_succ at_zero))))))))))))))))))))))))))) (by kernel_rfl) (by kernel_rfl) (by kernel_rfl) (fun _ _ _ h => h) (Or.inl ⟨by rfl, ?_⟩) (by assumption) ?_
      rotate_left
      · intro w9 hSw
        try dsimp only at hSw
        go_simp
        all_goals with_reducible rfl
      try simp only [Act.put, List.setIfInBounds_toArray, List.set_cons_zero, List.set_cons_succ]
      refine wpAnyH_ready (rs := [27]) (by kernel_rfl) (by simp) ?_
      refine AllReadyH.cons (arr_get (at_succ (at_succ (at_succ (at_succ (at_succ (at_succ (at_succ (at_succ (at_succ (at_succ (at_succ (at_succ (at_succ (at_succ (at_succ (at_succ (at_succ (at_succ (at_succ (at_succ (at_succ (at_succ (at_succ (at_succ (at_succ (at_succ (at_succ at_zero)))))))))))))))))))))))))))) (fun K hK => ?_) AllReadyH.nil
      go_simp
      go_at_call 24
      with_reducible refine (hT3.out _ (by assumption)).mono ?_
      rintro e w5 ⟨rfl, hb5⟩
      have hB5 := bchain (show Below W.heap.size W _ by assumption) hb5
      try go_wp2_with fail
      refine hK.out _ _ (by (try dsimp only); with_reducible exact hS.out _ hB5) (fun hHeld => ?_)
      clear hK K
      try simp only [Act.put, List.setIfInBounds_toArray, List.set_cons_zero, List.set_cons_succ]
      refine wpAnyH_take (i := 28) (v := ?_) (arr_get (at_succ (at_succ (at_succ (at_succ (at_succ (at_succ (at_succ (at_succ (at_succ (at_succ (at_succ (at_succ (at_succ (at_succ (at_succ (at_succ (at_succ (at_succ (at_succ (at_succ (at_succ (at_succ (at_succ (at_succ (at_succ (at_succ (at_succ (at_succ at_zero))))))))))))))))))))))))))))) (by kernel_rfl) (by kernel_rfl) (by kernel_rfl) (fun _ _ _ h => h) (Or.inl ⟨by rfl, ?_⟩) (by assumption) ?_
      rotate_left
      · intro w9 hSw
        try dsimp only at hSw
        go_simp
        all_goals with_reducible rfl
      try simp only [Act.put, List.setIfInBounds_toArray, List.set_cons_zero, List.set_cons_succ]
      refine wpAnyH_take (i := 29) (v := ?_) (arr_get (at_succ (at_succ (at_succ (at_succ (at_succ (at_succ (at_succ (at_succ (at_succ (at_succ (at_succ (at_succ (at_succ (at_succ (at_succ (at_succ (at_succ (at_succ (at_succ (at_succ (at_succ (at_succ (at_succ (at_succ (at_succ (at_succ (at_succ (at_succ (at_succ at_zero)))))))))))))))))))))))))))))) (by kernel_rfl) (by kernel_rfl) (by kernel_rfl) (fun _ _ _ h => h) (Or.inl ⟨by rfl, ?_⟩) (by assumption) ?_
      rotate_left
      · intro w9 hSw
        try dsimp only at hSw
        go_simp
        all_goals with_reducible rfl
      try simp only [Act.put, List.setIfInBounds_toArray, List.set_cons_zero, List.set_cons_succ]
      refine wpAnyH_take (i := 30) (v := ?_) (arr_get (at_succ (at_succ (at_succ (at_succ (at_succ (at_succ (at_succ (at_succ (at_succ (at_succ (at_succ (at_succ (at_succ (at_succ (at_succ (at_succ (at_succ (at_succ (at_succ (at_succ (at_succ (at_succ (at_succ (at_succ (at_succ (at_succ (at_succ (at_succ (at_succ (at_succ at_zero))))))))))))))))))))))))))))))) (by kernel_rfl) (by kernel_rfl) (by kernel_rfl) (fun _ _ _ h => h) (Or.inl ⟨by rfl, ?_⟩) (by assumption) ?_
      rotate_left
      · intro w9 hSw
        try dsimp only at hSw
        go_simp
        all_goals with_reducible rfl
      try simp only [Act.put, List.setIfInBounds_toArray, List.set_cons_zero, List.set_cons_succ]
      refine wpAnyH_take (i := 31) (v := ?_) (arr_get (at_succ (at_succ (at_succ (at_succ (at_succ (at_succ (at_succ (at_succ (at_succ (at_succ (at_succ (at_succ (at_succ (at_succ (at_succ (at_succ (at_succ (at_succ (at_succ (at_succ (at_succ (at_succ (at_succ (at_succ (at_succ (at_succ (at_succ (at_succ (at_succ (at_succ (at_succ at_zero)))))))))))))))))))))))))))))))) (by kernel_rfl) (by kernel_rfl) (by kernel_rfl) (fun _ _ _ h => h) (Or.inl ⟨by rfl, ?_⟩) (by assumption) ?_
      rotate_left
      · intro w9 hSw
        try dsimp only at hSw
        go_simp
        all_goals with_reducible rfl
      try simp only [Act.put, List.setIfInBounds_toArray, List.set_cons_zero, List.set_cons_succ]
      refine wpAnyH_take (i := 32) (v := ?_) (arr_get (at_succ (at_succ (at_succ (at_succ (at_succ (at_succ (at_succ (at_succ (at_succ (at_succ (at_succ (at_succ (at_succ (at_succ (at_succ (at_succ (at_succ (at_succ (at_succ (at_succ (at_succ (at_succ (at_succ (at_succ (at_succ (at_succ (at_succ (at_succ (at_succ (at_succ (at_succ (at_succ at_zero))))))))))))))))))))))))))))))))) (by kernel_rfl) (by kernel_rfl) (by kernel_rfl) (fun _ _ _ h => h) (Or.inl ⟨by rfl, ?_⟩) (by assumption) ?_
      rotate_left
      · intro w9 hSw
        try dsimp only at hSw
        go_simp
        all_goals with_reducible rfl
      try simp only [Act.put, List.setIfInBounds_toArray, List.set_cons_zero, List.set_cons_succ]
      refine wpAnyH_take (i := 33) (v := ?_) (arr_get (at_succ (at_succ (at_succ (at_succ (at_succ (at_succ (at_succ (at_succ (at_succ (at_succ (at_succ (at_succ (at_succ (at_succ (at_succ (at_succ (at_succ (at_succ (at_succ (at_succ (at_succ (at_succ (at_succ (at_succ (at_succ (at_succ (at_succ (at_succ (at_succ (at_succ (at_succ (at_succ (at_succ at_zero)))))))))))))))))))))))))))))))))) (by kernel_rfl) (by kernel_rfl) (by kernel_rfl) (fun _ _ _ h => h) (Or.inl ⟨by rfl, ?_⟩) (by assumption) ?_
      rotate_left
      · intro w9 hSw
        try dsimp only at hSw
        go_simp
        all_goals with_reducible rfl
      try simp only [Act.put, List.setIfInBounds_toArray, List.set_cons_zero, List.set_cons_succ]
      refine wpAnyH_take (i := 35) (v := ?_) (arr_get (at_succ (at_succ (at_succ (at_succ (at_succ (at_succ (at_succ (at_succ (at_succ (at_succ (at_succ (at_succ (at_succ (at_succ (at_succ (at_succ (at_succ (at_succ (at_succ (at_succ (at_succ (at_succ (at_succ (at_succ (at_succ (at_succ (at_succ (at_succ (at_succ (at_succ (at_succ (at_succ (at_succ (at_succ (at_succ at_zero)))))))))))))))))))))))))))))))))))) (by kernel_rfl) (by kernel_rfl) (by kernel_rfl) (fun _ _ _ h => h) (Or.inl ⟨by rfl, ?_⟩) (by assumption) ?_
      rotate_left
      · intro w9 hSw
        try dsimp only at hSw
        go_simp
        all_goals with_reducible rfl
      try simp only [Act.put, List.setIfInBounds_toArray, List.set_cons_zero, List.set_cons_succ]
      refine wpAnyH_ready (rs := [34]) (by kernel_rfl) (by simp) ?_
      refine AllReadyH.cons (arr_get (at_succ (at_succ (at_succ (at_succ (at_succ (at_succ (at_succ (at_succ (at_succ (at_succ (at_succ (at_succ (at_succ (at_succ (at_succ (at_succ (at_succ (at_succ (at_succ (at_succ (at_succ (at_succ (at_succ (at_succ (at_succ (at_succ (at_succ (at_succ (at_succ (at_succ (at_succ (at_succ (at_succ (at_succ at_zero))))))))))))))))))))))))))))))))))) (fun K hK => ?_) AllReadyH.nil
      go_simp
      go_at_call 18
      with_reducible refine (hT4.out _ (by assumption)).mono ?_
      rintro e w5 ⟨rfl, hb5⟩
      have hB5 := bchain (show Below W.heap.size W _ by assumption) hb5
      try go_wp2_with fail
      refine hK.out _ _ (by (try dsimp only); with_reducible exact hS.out _ hB5) (fun hHeld => ?_)
      clear hK K
      try simp only [Act.put, List.setIfInBounds_toArray, List.set_cons_zero, List.set_cons_succ]
      refine wpAnyH_take (i := 36) (v := ?_) (arr_get (at_succ (at_succ (at_succ (at_succ (at_succ (at_succ (at_succ (at_succ (at_succ (at_succ (at_succ (at_succ (at_succ (at_succ (at_succ (at_succ (at_succ (at_succ (at_succ (at_succ (at_succ (at_succ (at_succ (at_succ (at_succ (at_succ (at_succ (at_succ (at_succ (at_succ (at_succ (at_succ (at_succ (at_succ (at_succ (at_succ at_zero))))))))))))))))))))))))))))))))))))) (by kernel_rfl) (by kernel_rfl) (by kernel_rfl) (fun _ _ _ h => h) (Or.inl ⟨by rfl, ?_⟩) (by assumption) ?_
      rotate_left
      · intro w9 hSw
        try dsimp only at hSw
        go_simp
        all_goals with_reducible rfl
      try simp only [Act.put, List.setIfInBounds_toArray, List.set_cons_zero, List.set_cons_succ]
      refine wpAnyH_take (i := 37) (v := ?_) (arr_get (at_succ (at_succ (at_succ (at_succ (at_succ (at_succ (at_succ (at_succ (at_succ (at_succ (at_succ (at_succ (at_succ (at_succ (at_succ (at_succ (at_succ (at_succ (at_succ (at_succ (at_succ (at_succ (at_succ (at_succ (at_succ (at_succ (at_succ (at_succ (at_succ (at_succ (at_succ (at_succ (at_succ (at_succ (at_succ (at_succ (at_succ at_zero)))))))))))))))))))))))))))))))))))))) (by kernel_rfl) (by kernel_rfl) (by kernel_rfl) (fun _ _ _ h => h) (Or.inl ⟨by rfl, ?_⟩) (by assumption) ?_
      rotate_left
      · intro w9 hSw
        try dsimp only at hSw
        go_simp
        all_goals with_reducible rfl
      try simp only [Act.put, List.setIfInBounds_toArray, List.set_cons_zero, List.set_cons_succ]
      refine wpAnyH_take (i := 38) (v := ?_) (arr_get (at_succ (at_succ (at_succ (at_succ (at_succ (at_succ (at_succ (at_succ (at_succ (at_succ (at_succ (at_succ (at_succ (at_succ (at_succ (at_succ (at_succ (at_succ (at_succ (at_succ (at_succ (at_succ (at_succ (at_succ (at_succ (at_succ (at_succ (at_succ (at_succ (at_succ (at_succ (at_succ (at_succ (at_succ (at_succ (at_succ (at_succ (at_succ at_zero))))))))))))))))))))))))))))))))))))))) (by kernel_rfl) (by kernel_rfl) (by kernel_rfl) (fun _ _ _ h => h) (Or.inl ⟨by rfl, ?_⟩) (by assumption) ?_
      rotate_left
      · intro w9 hSw
        try dsimp only at hSw
        go_simp
        all_goals with_reducible rfl
      try simp only [Act.put, List.setIfInBounds_toArray, List.set_cons_zero, List.set_cons_succ]
      refine wpAnyH_take (i := 39) (v := ?_) (arr_get (at_succ (at_succ (at_succ (at_succ (at_succ (at_succ (at_succ (at_succ (at_succ (at_succ (at_succ (at_succ (at_succ (at_succ (at_succ (at_succ (at_succ (at_succ (at_succ (at_succ (at_succ (at_succ (at_succ (at_succ (at_succ (at_succ (at_succ (at_succ (at_succ (at_succ (at_succ (at_succ (at_succ (at_succ (at_succ (at_succ (at_succ (at_succ (at_succ at_zero)))))))))))))))))))))))))))))))))))))))) (by kernel_rfl) (by kernel_rfl) (by kernel_rfl) (fun _ _ _ h => h) (Or.inl ⟨by rfl, ?_⟩) (by assumption) ?_
      rotate_left
      · intro w9 hSw
        try dsimp only at hSw
        go_simp
        all_goals with_reducible rfl
      try simp only [Act.put, List.setIfInBounds_toArray, List.set_cons_zero, List.set_cons_succ]
      refine wpAnyH_take (i := 40) (v := ?_) (arr_get (at_succ (at_succ (at_succ (at_succ (at_succ (at_succ (at_succ (at_succ (at_succ (at_succ (at_succ (at_succ (at_succ (at_succ (at_succ (at_succ (at_succ (at_succ (at_succ (at_succ (at_succ (at_succ (at_succ (at_succ (at_succ (at_succ (at_succ (at_succ (at_succ (at_succ (at_succ (at_succ (at_succ (at_succ (at_succ (at_succ (at_succ (at_succ (at_succ (at_succ at_zero))))))))))))))))))))))))))))))))))))))))) (by kernel_rfl) (by kernel_rfl) (by kernel_rfl) (fun _ _ _ h => h) (Or.inl ⟨by rfl, ?_⟩) (by assumption) ?_
      rotate_left
      · intro w9 hSw
        try dsimp only at hSw
        go_simp
        all_goals with_reducible rfl
      try simp only [Act.put, List.setIfInBounds_toArray, List.set_cons_zero, List.set_cons_succ]
      refine wpAnyH_take (i := 41) (v := ?_) (arr_get (at_succ (at_succ (at_succ (at_succ (at_succ (at_succ (at_succ (at_succ (at_succ (at_succ (at_succ (at_succ (at_succ (at_succ (at_succ (at_succ (at_succ (at_succ (at_succ (at_succ (at_succ (at_succ (at_succ (at_succ (at_succ (at_succ (at_succ (at_succ (at_succ (at_succ (at_succ (at_succ (at_succ (at_succ (at_succ (at_succ (at_succ (at_succ (at_succ (at_succ (at_succ at_zero)))))))))))))))))))))))))))))))))))))))))) (by kernel_rfl) (by kernel_rfl) (by kernel_rfl) (fun _ _ _ h => h) (Or.inl ⟨by rfl, ?_⟩) (by assumption) ?_
      rotate_left
      · intro w9 hSw
        try dsimp only at hSw
        go_simp
        all_goals with_reducible rfl
      try simp only [Act.put, List.setIfInBounds_toArray, List.set_cons_zero, List.set_cons_succ]
      refine wpAnyH_take (i := 43) (v := ?_) (arr_get (at_succ (at_succ (at_succ (at_succ (at_succ (at_succ (at_succ (at_succ (at_succ (at_succ (at_succ (at_succ (at_succ (at_succ (at_succ (at_succ (at_succ (at_succ (at_succ (at_succ (at_succ (at_succ (at_succ (at_succ (at_succ (at_succ (at_succ (at_succ (at_succ (at_succ (at_succ (at_succ (at_succ (at_succ (at_succ (at_succ (at_succ (at_succ (at_succ (at_succ (at_succ (at_succ (at_succ at_zero)))))))))))))))))))))))))))))))))))))))))))) (by kernel_rfl) (by kernel_rfl) (by kernel_rfl) (fun _ _ _ h => h) (Or.inl ⟨by rfl, ?_⟩) (by assumption) ?_
      rotate_left
      · intro w9 hSw
        try dsimp only at hSw
        go_simp
        all_goals with_reducible rfl
      try simp only [Act.put, List.setIfInBounds_toArray, List.set_cons_zero, List.set_cons_succ]
      refine wpAnyH_take (i := 44) (v := ?_) (arr_get (at_succ (at_succ (at_succ (at_succ (at_succ (at_succ (at_succ (at_succ (at_succ (at_succ (at_succ (at_succ (at_succ (at_succ (at_succ (at_succ (at_succ (at_succ (at_succ (at_succ (at_succ (at_succ (at_succ (at_succ (at_succ (at_succ (at_succ (at_succ (at_succ (at_succ (at_succ (at_succ (at_succ (at_succ (at_succ (at_succ (at_succ (at_succ (at_succ (at_succ (at_succ (at_succ (at_succ (at_succ at_zero))))))))))))))))))))))))))))))))))))))))))))) (by kernel_rfl) (by kernel_rfl) (by kernel_rfl) (fun _ _ _ h => h) (Or.inl ⟨by rfl, ?_⟩) (by assumption) ?_
      rotate_left
      · intro w9 hSw
        try dsimp only at hSw
        go_simp
        all_goals with_reducible rfl
      try simp only [Act.put, List.setIfInBounds_toArray, List.set_cons_zero, List.set_cons_succ]
      refine wpAnyH_ready (rs := [42]) (by kernel_rfl) (by simp) ?_
      refine AllReadyH.cons (arr_get (at_succ (at_succ (at_succ (at_succ (at_succ (at_succ (at_succ (at_succ (at_succ (at_succ (at_succ (at_succ (at_succ (at_succ (at_succ (at_succ (at_succ (at_succ (at_succ (at_succ (at_succ (at_succ (at_succ (at_succ (at_succ (at_succ (at_succ (at_succ (at_succ (at_succ (at_succ (at_succ (at_succ (at_succ (at_succ (at_succ (at_succ (at_succ (at_succ (at_succ (at_succ (at_succ at_zero))))))))))))))))))))))))))))))))))))))))))) (fun K hK => ?_) AllReadyH.nil
      go_simp
      go_at_call 25
      with_reducible refine (hT5.out _ (by assumption)).mono ?_
      rintro e w5 ⟨rfl, hb5⟩
      have hB5 := bchain (show Below W.heap.size W _ by assumption) hb5
      try go_wp2_with fail
      refine hK.out _ _ (by (try dsimp only); with_reducible exact hS.out _ hB5) (fun hHeld => ?_)
      clear hK K
      try simp only [Act.put, List.setIfInBounds_toArray, List.set_cons_zero, List.set_cons_succ]
      refine wpAnyH_ready (rs := [45]) (by kernel_rfl) (by simp) ?_
      refine AllReadyH.cons (arr_get (at_succ (at_succ (at_succ (at_succ (at_succ (at_succ (at_succ (at_succ (at_succ (at_succ (at_succ (at_succ (at_succ (at_succ (at_succ (at_succ (at_succ (at_succ (at_succ (at_succ (at_succ (at_succ (at_succ (at_succ (at_succ (at_succ (at_succ (at_succ (at_succ (at_succ (at_succ (at_succ (at_succ (at_succ (at_succ (at_succ (at_succ (at_succ (at_succ (at_succ (at_succ (at_succ (at_succ (at_succ (at_succ at_zero)))))))))))))))))))))))))))))))))))))))))))))) (fun K hK => ?_) AllReadyH.nil
      go_simp
      go_at_call 24
      with_reducible refine (hT6.out _ (by assumption)).mono ?_
      rintro e w5 ⟨rfl, hb5⟩
      have hB5 := bchain (show Below W.heap.size W _ by assumption) hb5
      try go_wp2_with fail
      refine hK.out _ _ (by (try dsimp only); with_reducible exact hS.out _ hB5) (fun hHeld => ?_)
      clear hK K
      try simp only [Act.put, List.setIfInBounds_toArray, List.set_cons_zero, List.set_cons_succ]
      refine wpAnyH_take (i := 46) (v := ?_) (arr_get (at_succ (at_succ (at_succ (at_succ (at_succ (at_succ (at_succ (at_succ (at_succ (at_succ (at_succ (at_succ (at_succ (at_succ (at_succ (at_succ (at_succ (at_succ (at_succ (at_succ (at_succ (at_succ (at_succ (at_succ (at_succ (at_succ (at_succ (at_succ (at_succ (at_succ (at_succ (at_succ (at_succ (at_succ (at_succ (at_succ (at_succ (at_succ (at_succ (at_succ (at_succ (at_succ (at_succ (at_succ (at_succ (at_succ at_zero))))))))))))))))))))))))))))))))))))))))))))))) (by kernel_rfl) (by kernel_rfl) (by kernel_rfl) (fun _ _ _ h => h) (Or.inl ⟨by rfl, ?_⟩) (by assumption) ?_
      rotate_left
      · intro w9 hSw
        try dsimp only at hSw
        go_simp
        all_goals with_reducible rfl
      try simp only [Act.put, List.setIfInBounds_toArray, List.set_cons_zero, List.set_cons_succ]
      refine wpAnyH_take (i := 47) (v := ?_) (arr_get (at_succ (at_succ (at_succ (at_succ (at_succ (at_succ (at_succ (at_succ (at_succ (at_succ (at_succ (at_succ (at_succ (at_succ (at_succ (at_succ (at_succ (at_succ (at_succ (at_succ (at_succ (at_succ (at_succ (at_succ (at_succ (at_succ (at_succ (at_succ (at_succ (at_succ (at_succ (at_succ (at_succ (at_succ (at_succ (at_succ (at_succ (at_succ (at_succ (at_succ (at_succ (at_succ (at_succ (at_succ (at_succ (at_succ (at_succ at_zero)))))))))))))))))))))))))))))))))))))))))))))))) (by kernel_rfl) (by kernel_rfl) (by kernel_rfl) (fun _ _ _ h => h) (Or.inl ⟨by rfl, ?_⟩) (by assumption) ?_
      rotate_left
      · intro w9 hSw
        try dsimp only at hSw
        go_simp
        all_goals with_reducible rfl
      try simp only [Act.put, List.setIfInBounds_toArray, List.set_cons_zero, List.set_cons_succ]
      refine wpAnyH_take (i := 48) (v := ?_) (arr_get (at_succ (at_succ (at_succ (at_succ (at_succ (at_succ (at_succ (at_succ (at_succ (at_succ (at_succ (at_succ (at_succ (at_succ (at_succ (at_succ (at_succ (at_succ (at_succ (at_succ (at_succ (at_succ (at_succ (at_succ (at_succ (at_succ (at_succ (at_succ (at_succ (at_succ (at_succ (at_succ (at_succ (at_succ (at_succ (at_succ (at_succ (at_succ (at_succ (at_succ (at_succ (at_succ (at_succ (at_succ (at_succ (at_succ (at_succ (at_succ at_zero))))))))))))))))))))))))))))))))))))))))))))))))) (by kernel_rfl) (by kernel_rfl) (by kernel_rfl) (fun _ _ _ h => h) (Or.inl ⟨by rfl, ?_⟩) (by assumption) ?_
      rotate_left
      · intro w9 hSw
        try dsimp only at hSw
        go_simp
        all_goals with_reducible rfl
      try simp only [Act.put, List.setIfInBounds_toArray, List.set_cons_zero, List.set_cons_succ]
      refine wpAnyH_done (by kernel_rfl) ?_ _
      refine NoPanic.normal ?_
      go_wp2
      go_ret
      exact ⟨by first | rfl | (simp; done), bchain HB.out (by assumption)⟩
    | false =>
      obtain ⟨sb, hsb⟩ : ∃ sb, decide (p5 = p6) = sb := ⟨_, rfl⟩
      have HSB := hid hsb
      clear hsb
      have q9 : (sb == sb) = true := by simp
      go_wp2
      obtain ⟨W, hW⟩ : ∃ W, ((w7.alloc (Obj.cells #[.slice A5 n5 c5, .slice B5 m5 d5] 35)).alloc (Obj.cells #[.slice A6 n6 c6, .slice B6 m6 d6] 35)) = W := ⟨_, rfl⟩
      rw [hW] at HB X1 M1 N1 X2 M2 N2 X3 M3 N3 X4 M4 N4 X5 M5 N5 X6 M6 N6 ⊢
      clear hW
      try clear l1 l2 l3 l4 l5 l6
      try clear x1 y1 x2 y2 x3 y3 x4 y4 x5 y5 x6 y6
      have hS := hid (fun (w9 : World) (b : Below W.heap.size W w9) => (⟨b, (b.cell (p := ⟨w1.heap.size, 0, none⟩) X1.out.lt).trans (bx_p0 X1.out), (b.cell (p := ⟨w1.heap.size, 1, none⟩) X1.out.lt).trans (bx_p1 X1.out), (b.cell (p := ⟨w3.heap.size, 0, none⟩) X2.out.lt).trans (bx_p0 X2.out), (b.cell (p := ⟨w3.heap.size, 1, none⟩) X2.out.lt).trans (bx_p1 X2.out), (b.cell (p := ⟨w5.heap.size, 0, none⟩) X3.out.lt).trans (bx_p0 X3.out), (b.cell (p := ⟨w5.heap.size, 1, none⟩) X3.out.lt).trans (bx_p1 X3.out), (b.cell (p := ⟨w6.heap.size, 0, none⟩) X4.out.lt).trans (bx_p0 X4.out), (b.cell (p := ⟨w6.heap.size, 1, none⟩) X4.out.lt).trans (bx_p1 X4.out), (b.cell (p := ⟨w7.heap.size, 0, none⟩) X5.out.lt).trans (bx_p0 X5.out), (b.cell (p := ⟨w7.heap.size, 1, none⟩) X5.out.lt).trans (bx_p1 X5.out), (b.cell (p := ⟨(w7.heap.size + 1), 0, none⟩) X6.out.lt).trans (bx_p0 X6.out), (b.cell (p := ⟨(w7.heap.size + 1), 1, none⟩) X6.out.lt).trans (bx_p1 X6.out)⟩ : Below W.heap.size W w9 ∧ w9.cell? ⟨w1.heap.size, 0, none⟩ = some (.slice A1 n1 c1) ∧ w9.cell? ⟨w1.heap.size, 1, none⟩ = some (.slice B1 m1 d1) ∧ w9.cell? ⟨w3.heap.size, 0, none⟩ = some (.slice A2 0 c2) ∧ w9.cell? ⟨w3.heap.size, 1, none⟩ = some (.slice B2 0 d2) ∧ w9.cell? ⟨w5.heap.size, 0, none⟩ = some (.slice A3 R.1.length c3) ∧ w9.cell? ⟨w5.heap.size, 1, none⟩ = some (.slice B3 R.2.length d3) ∧ w9.cell? ⟨w6.heap.size, 0, none⟩ = some (.slice A4 R.1.length c4) ∧ w9.cell? ⟨w6.heap.size, 1, none⟩ = some (.slice B4 R.2.length d4) ∧ w9.cell? ⟨w7.heap.size, 0, none⟩ = some (.slice A5 n5 c5) ∧ w9.cell? ⟨w7.heap.size, 1, none⟩ = some (.slice B5 m5 d5) ∧ w9.cell? ⟨(w7.heap.size + 1), 0, none⟩ = some (.slice A6 n6 c6) ∧ w9.cell? ⟨(w7.heap.size + 1), 1, none⟩ = some (.slice B6 m6 d6)))
      have l1 : w1.heap.size < W.heap.size := X1.out.lt
      have x1 : W.cell? ⟨w1.heap.size, 0, none⟩ = some (.slice A1 n1 c1) := bx_p0 X1.out
      have y1 : W.cell? ⟨w1.heap.size, 1, none⟩ = some (.slice B1 m1 d1) := bx_p1 X1.out
      have l2 : w3.heap.size < W.heap.size := X2.out.lt
      have x2 : W.cell? ⟨w3.heap.size, 0, none⟩ = some (.slice A2 0 c2) := bx_p0 X2.out
      have y2 : W.cell? ⟨w3.heap.size, 1, none⟩ = some (.slice B2 0 d2) := bx_p1 X2.out
      have l3 : w5.heap.size < W.heap.size := X3.out.lt
      have x3 : W.cell? ⟨w5.heap.size, 0, none⟩ = some (.slice A3 R.1.length c3) := bx_p0 X3.out
      have y3 : W.cell? ⟨w5.heap.size, 1, none⟩ = some (.slice B3 R.2.length d3) := bx_p1 X3.out
      have l4 : w6.heap.size < W.heap.size := X4.out.lt
      have x4 : W.cell? ⟨w6.heap.size, 0, none⟩ = some (.slice A4 R.1.length c4) := bx_p0 X4.out
      have y4 : W.cell? ⟨w6.heap.size, 1, none⟩ = some (.slice B4 R.2.length d4) := bx_p1 X4.out
      have l5 : w7.heap.size < W.heap.size := X5.out.lt
      have x5 : W.cell? ⟨w7.heap.size, 0, none⟩ = some (.slice A5 n5 c5) := bx_p0 X5.out
      have y5 : W.cell? ⟨w7.heap.size, 1, none⟩ = some (.slice B5 m5 d5) := bx_p1 X5.out
      have l6 : (w7.heap.size + 1) < W.heap.size := X6.out.lt
      have x6 : W.cell? ⟨(w7.heap.size + 1), 0, none⟩ = some (.slice A6 n6 c6) := bx_p0 X6.out
      have y6 : W.cell? ⟨(w7.heap.size + 1), 1, none⟩ = some (.slice B6 m6 d6) := bx_p1 X6.out
      have hT1 : Hid (∀ w9 : World, Below W.heap.size W w9 → Calls Try.prog 23 #[.agg #[.slice A1 n1 c1, .slice B1 m1 d1]] w9 fun e w' => e = .returned (.string ⟨#[]⟩) ∧ Below w9.heap.size w9 w') := by
        refine hid fun w9 b => ?_
        have h := specPassingText_any A1 B1 n1 c1 m1 d1 p w9 (by omega) (by omega) ((M1.out.below b (Nat.le_refl _)).more b.size) ((N1.out.below b (Nat.le_refl _)).more b.size)
        rw [HT.out] at h
        exact h
      have hT3 : Hid (∀ w9 : World, Below W.heap.size W w9 → Calls Try.prog 24 #[.agg #[.slice A3 R.1.length c3, .slice B3 R.2.length d3], .agg #[.slice A4 R.1.length c4, .slice B4 R.2.length d4]] w9 fun e w' => e = .returned (.bool true) ∧ Below w9.heap.size w9 w') := by
        refine hid fun w9 b => ?_
        have h := specSamePassing_any A3 B3 A4 B4 R.1.length c3 R.2.length d3 R.1.length c4 R.2.length d4 R R w9 (by omega) (by omega) (by omega) (by omega) ((M3.out.below b (Nat.le_refl _)).more b.size) ((N3.out.below b (Nat.le_refl _)).more b.size) ((M4.out.below b (Nat.le_refl _)).more b.size) ((N4.out.below b (Nat.le_refl _)).more b.size)
        rw [same_psg] at h
        exact h
      have hT5 : Hid (∀ w9 : World, Below W.heap.size W w9 → Calls Try.prog 25 #[.agg #[.slice A5 n5 c5, .slice B5 m5 d5], .agg #[.slice A6 n6 c6, .slice B6 m6 d6]] w9 fun e w' => e = .returned (.bool sb) ∧ Below w9.heap.size w9 w') := by
        refine hid fun w9 b => ?_
        have h := SamePassing_any A5 B5 A6 B6 n5 c5 m5 d5 n6 c6 m6 d6 p5 p6 w9 (by omega) (by omega) (by omega) (by omega) ((M5.out.below b (Nat.le_refl _)).more b.size) ((N5.out.below b (Nat.le_refl _)).more b.size) ((M6.out.below b (Nat.le_refl _)).more b.size) ((N6.out.below b (Nat.le_refl _)).more b.size)
        rw [HSB.out] at h
        exact h
      have hT6 : Hid (∀ w9 : World, Below W.heap.size W w9 → Calls Try.prog 24 #[.agg #[.slice A5 n5 c5, .slice B5 m5 d5], .agg #[.slice A6 n6 c6, .slice B6 m6 d6]] w9 fun e w' => e = .returned (.bool sb) ∧ Below w9.heap.size w9 w') := by
        refine hid fun w9 b => ?_
        have h := specSamePassing_any A5 B5 A6 B6 n5 c5 m5 d5 n6 c6 m6 d6 p5 p6 w9 (by omega) (by omega) (by omega) (by omega) ((M5.out.below b (Nat.le_refl _)).more b.size) ((N5.out.below b (Nat.le_refl _)).more b.size) ((M6.out.below b (Nat.le_refl _)).more b.size) ((N6.out.below b (Nat.le_refl _)).more b.size)
        rw [HSB.out] at h
        exact h
      have hBd : Below W.heap.size W W.drew := (Below.refl _ _).drew
      clear X1 M1 N1 X2 M2 N2 X3 M3 N3 X4 M4 N4 X5 M5 N5 X6 M6 N6
      refine wp_region_noPanic ?_
      refine wp_region_held_drew (S := fun w' => Below W.heap.size W w' ∧ w'.cell? ⟨w1.heap.size, 0, none⟩ = some (.slice A1 n1 c1) ∧ w'.cell? ⟨w1.heap.size, 1, none⟩ = some (.slice B1 m1 d1) ∧ w'.cell? ⟨w3.heap.size, 0, none⟩ = some (.slice A2 0 c2) ∧ w'.cell? ⟨w3.heap.size, 1, none⟩ = some (.slice B2 0 d2) ∧ w'.cell? ⟨w5.heap.size, 0, none⟩ = some (.slice A3 R.1.length c3) ∧ w'.cell? ⟨w5.heap.size, 1, none⟩ = some (.slice B3 R.2.length d3) ∧ w'.cell? ⟨w6.heap.size, 0, none⟩ = some (.slice A4 R.1.length c4) ∧ w'.cell? ⟨w6.heap.size, 1, none⟩ = some (.slice B4 R.2.length d4) ∧ w'.cell? ⟨w7.heap.size, 0, none⟩ = some (.slice A5 n5 c5) ∧ w'.cell? ⟨w7.heap.size, 1, none⟩ = some (.slice B5 m5 d5) ∧ w'.cell? ⟨(w7.heap.size + 1), 0, none⟩ = some (.slice A6 n6 c6) ∧ w'.cell? ⟨(w7.heap.size + 1), 1, none⟩ = some (.slice B6 m6 d6)) (by kernel_rfl) ?_ (fun hHeld => ?_)
      · with_reducible exact hS.out _ hBd
      refine wpAnyH_take (i := 0) (v := ?_) (arr_get at_zero) (by kernel_rfl) (by kernel_rfl) (by kernel_rfl) (fun _ _ _ h => h) (Or.inl ⟨by rfl, ?_⟩) (by assumption) ?_
      rotate_left
      · intro w9 hSw
        try dsimp only at hSw
        go_simp
        all_goals with_reducible rfl
      try simp only [Act.put, List.setIfInBounds_toArray, List.set_cons_zero, List.set_cons_succ]
      refine wpAnyH_take (i := 1) (v := ?_) (arr_get (at_succ at_zero)) (by kernel_rfl) (by kernel_rfl) (by kernel_rfl) (fun _ _ _ h => h) (Or.inl ⟨by rfl, ?_⟩) (by assumption) ?_
      rotate_left
      · intro w9 hSw
        try dsimp only at hSw
        go_simp
        all_goals with_reducible rfl
      try simp only [Act.put, List.setIfInBounds_toArray, List.set_cons_zero, List.set_cons_succ]
      refine wpAnyH_ready (rs := [2]) (by kernel_rfl) (by simp) ?_
      refine AllReadyH.cons (arr_get (at_succ (at_succ at_zero))) (fun K hK => ?_) AllReadyH.nil
      go_simp
      go_at_call 23
      with_reducible refine (hT1.out _ (by assumption)).mono ?_
      rintro e w5 ⟨rfl, hb5⟩
      have hB5 := bchain (show Below W.heap.size W _ by assumption) hb5
      try go_wp2_with fail
      refine hK.out _ _ (by (try dsimp only); with_reducible exact hS.out _ hB5) (fun hHeld => ?_)
      clear hK K
      try simp only [Act.put, List.setIfInBounds_toArray, List.set_cons_zero, List.set_cons_succ]
      refine wpAnyH_take (i := 3) (v := ?_) (arr_get (at_succ (at_succ (at_succ at_zero)))) (by kernel_rfl) (by kernel_rfl) (by kernel_rfl) (fun _ _ _ h => h) (Or.inl ⟨by rfl, ?_⟩) (by assumption) ?_
      rotate_left
      · intro w9 hSw
        try dsimp only at hSw
        go_simp
        all_goals with_reducible rfl
      try simp only [Act.put, List.setIfInBounds_toArray, List.set_cons_zero, List.set_cons_succ]
      refine wpAnyH_take (i := 4) (v := ?_) (arr_get (at_succ (at_succ (at_succ (at_succ at_zero))))) (by kernel_rfl) (by kernel_rfl) (by kernel_rfl) (fun _ _ _ h => h) (Or.inl ⟨by rfl, ?_⟩) (by assumption) ?_
      rotate_left
      · intro w9 hSw
        try dsimp only at hSw
        go_simp
        all_goals with_reducible rfl
      try simp only [Act.put, List.setIfInBounds_toArray, List.set_cons_zero, List.set_cons_succ]
      refine wpAnyH_take (i := 5) (v := ?_) (arr_get (at_succ (at_succ (at_succ (at_succ (at_succ at_zero)))))) (by kernel_rfl) (by kernel_rfl) (by kernel_rfl) (fun _ _ _ h => h) (Or.inl ⟨by rfl, ?_⟩) (by assumption) ?_
      rotate_left
      · intro w9 hSw
        try dsimp only at hSw
        go_simp
        all_goals with_reducible rfl
      try simp only [Act.put, List.setIfInBounds_toArray, List.set_cons_zero, List.set_cons_succ]
      refine wpAnyH_take (i := 6) (v := ?_) (arr_get (at_succ (at_succ (at_succ (at_succ (at_succ (at_succ at_zero))))))) (by kernel_rfl) (by kernel_rfl) (by kernel_rfl) (fun _ _ _ h => h) (Or.inl ⟨by rfl, ?_⟩) (by assumption) ?_
      rotate_left
      · intro w9 hSw
        try dsimp only at hSw
        go_simp
        all_goals with_reducible rfl
      try simp only [Act.put, List.setIfInBounds_toArray, List.set_cons_zero, List.set_cons_succ]
      refine wpAnyH_take (i := 7) (v := ?_) (arr_get (at_succ (at_succ (at_succ (at_succ (at_succ (at_succ (at_succ at_zero)))))))) (by kernel_rfl) (by kernel_rfl) (by kernel_rfl) (fun _ _ _ h => h) (Or.inl ⟨by rfl, ?_⟩) (by assumption) ?_
      rotate_left
      · intro w9 hSw
        try dsimp only at hSw
        go_simp
        all_goals with_reducible rfl
      try simp only [Act.put, List.setIfInBounds_toArray, List.set_cons_zero, List.set_cons_succ]
      refine wpAnyH_take (i := 8) (v := ?_) (arr_get (at_succ (at_succ (at_succ (at_succ (at_succ (at_succ (at_succ (at_succ at_zero))))))))) (by kernel_rfl) (by kernel_rfl) (by kernel_rfl) (fun _ _ _ h => h) (Or.inl ⟨by rfl, ?_⟩) (by assumption) ?_
      rotate_left
      · intro w9 hSw
        try dsimp only at hSw
        go_simp
        all_goals with_reducible rfl
      try simp only [Act.put, List.setIfInBounds_toArray, List.set_cons_zero, List.set_cons_succ]
      refine wpAnyH_take (i := 9) (v := ?_) (arr_get (at_succ (at_succ (at_succ (at_succ (at_succ (at_succ (at_succ (at_succ (at_succ at_zero)))))))))) (by kernel_rfl) (by kernel_rfl) (by kernel_rfl) (fun _ _ _ h => h) (Or.inl ⟨by rfl, ?_⟩) (by assumption) ?_
      rotate_left
      · intro w9 hSw
        try dsimp only at hSw
        go_simp
        all_goals with_reducible rfl
      try simp only [Act.put, List.setIfInBounds_toArray, List.set_cons_zero, List.set_cons_succ]
      refine wpAnyH_take (i := 10) (v := ?_) (arr_get (at_succ (at_succ (at_succ (at_succ (at_succ (at_succ (at_succ (at_succ (at_succ (at_succ at_zero))))))))))) (by kernel_rfl) (by kernel_rfl) (by kernel_rfl) (fun _ _ _ h => h) (Or.inl ⟨by rfl, ?_⟩) (by assumption) ?_
      rotate_left
      · intro w9 hSw
        try dsimp only at hSw
        go_simp
        all_goals with_reducible rfl
      try simp only [Act.put, List.setIfInBounds_toArray, List.set_cons_zero, List.set_cons_succ]
      refine wpAnyH_take (i := 11) (v := ?_) (arr_get (at_succ (at_succ (at_succ (at_succ (at_succ (at_succ (at_succ (at_succ (at_succ (at_succ (at_succ at_zero)))))))))))) (by kernel_rfl) (by kernel_rfl) (by kernel_rfl) (fun _ _ _ h => h) (Or.inl ⟨by rfl, ?_⟩) (by assumption) ?_
      rotate_left
      · intro w9 hSw
        try dsimp only at hSw
        go_simp
        all_goals with_reducible rfl
      try simp only [Act.put, List.setIfInBounds_toArray, List.set_cons_zero, List.set_cons_succ]
      refine wpAnyH_take (i := 12) (v := ?_) (arr_get (at_succ (at_succ (at_succ (at_succ (at_succ (at_succ (at_succ (at_succ (at_succ (at_succ (at_succ (at_succ at_zero))))))))))))) (by kernel_rfl) (by kernel_rfl) (by kernel_rfl) (fun _ _ _ h => h) (Or.inl ⟨by rfl, ?_⟩) (by assumption) ?_
      rotate_left
      · intro w9 hSw
        try dsimp only at hSw
        go_simp
        all_goals with_reducible rfl
      try simp only [Act.put, List.setIfInBounds_toArray, List.set_cons_zero, List.set_cons_succ]
      refine wpAnyH_take (i := 13) (v := ?_) (arr_get (at_succ (at_succ (at_succ (at_succ (at_succ (at_succ (at_succ (at_succ (at_succ (at_succ (at_succ (at_succ (at_succ at_zero)))))))))))))) (by kernel_rfl) (by kernel_rfl) (by kernel_rfl) (fun _ _ _ h => h) (Or.inl ⟨by rfl, ?_⟩) (by assumption) ?_
      rotate_left
      · intro w9 hSw
        try dsimp only at hSw
        go_simp
        all_goals with_reducible rfl
      try simp only [Act.put, List.setIfInBounds_toArray, List.set_cons_zero, List.set_cons_succ]
      refine wpAnyH_take (i := 14) (v := undef) (arr_get (at_succ (at_succ (at_succ (at_succ (at_succ (at_succ (at_succ (at_succ (at_succ (at_succ (at_succ (at_succ (at_succ (at_succ at_zero))))))))))))))) (by kernel_rfl) (by kernel_rfl) (by kernel_rfl) (fun _ _ _ h => h) (Or.inr ⟨by rfl, rfl⟩) (by assumption) ?_
      try simp only [Act.put, List.setIfInBounds_toArray, List.set_cons_zero, List.set_cons_succ]
      refine wpAnyH_take (i := 15) (v := undef) (arr_get (at_succ (at_succ (at_succ (at_succ (at_succ (at_succ (at_succ (at_succ (at_succ (at_succ (at_succ (at_succ (at_succ (at_succ (at_succ at_zero)))))))))))))))) (by kernel_rfl) (by kernel_rfl) (by kernel_rfl) (fun _ _ _ h => h) (Or.inr ⟨by rfl, rfl⟩) (by assumption) ?_
      try simp only [Act.put, List.setIfInBounds_toArray, List.set_cons_zero, List.set_cons_succ]
      refine wpAnyH_ready (rs := [16]) (by kernel_rfl) (by simp) ?_
      refine AllReadyH.cons (arr_get (at_succ (at_succ (at_succ (at_succ (at_succ (at_succ (at_succ (at_succ (at_succ (at_succ (at_succ (at_succ (at_succ (at_succ (at_succ (at_succ at_zero))))))))))))))))) (fun K hK => ?_) AllReadyH.nil
      go_simp
      refine hK.out _ _ (by (try dsimp only); assumption) (fun hHeld => ?_)
      clear hK K
      try simp only [Act.put, List.setIfInBounds_toArray, List.set_cons_zero, List.set_cons_succ]
      refine wpAnyH_take (i := 17) (v := ?_) (arr_get (at_succ (at_succ (at_succ (at_succ (at_succ (at_succ (at_succ (at_succ (at_succ (at_succ (at_succ (at_succ (at_succ (at_succ (at_succ (at_succ (at_succ at_zero)))))))))))))))))) (by kernel_rfl) (by kernel_rfl) (by kernel_rfl) (fun _ _ _ h => h) (Or.inl ⟨by rfl, ?_⟩) (by assumption) ?_
      rotate_left
      · intro w9 hSw
        try dsimp only at hSw
        go_simp
        all_goals with_reducible rfl
      try simp only [Act.put, List.setIfInBounds_toArray, List.set_cons_zero, List.set_cons_succ]
      refine wpAnyH_take (i := 18) (v := ?_) (arr_get (at_succ (at_succ (at_succ (at_succ (at_succ (at_succ (at_succ (at_succ (at_succ (at_succ (at_succ (at_succ (at_succ (at_succ (at_succ (at_succ (at_succ (at_succ at_zero))))))))))))))))))) (by kernel_rfl) (by kernel_rfl) (by kernel_rfl) (fun _ _ _ h => h) (Or.inl ⟨by rfl, ?_⟩) (by assumption) ?_
      rotate_left
      · intro w9 hSw
        try dsimp only at hSw
        go_simp
        all_goals with_reducible rfl
      try simp only [Act.put, List.setIfInBounds_toArray, List.set_cons_zero, List.set_cons_succ]
      refine wpAnyH_take (i := 19) (v := ?_) (arr_get (at_succ (at_succ (at_succ (at_succ (at_succ (at_succ (at_succ (at_succ (at_succ (at_succ (at_succ (at_succ (at_succ (at_succ (at_succ (at_succ (at_succ (at_succ (at_succ at_zero)))))))))))))))))))) (by kernel_rfl) (by kernel_rfl) (by kernel_rfl) (fun _ _ _ h => h) (Or.inl ⟨by rfl, ?_⟩) (by assumption) ?_
      rotate_left
      · intro w9 hSw
        try dsimp only at hSw
        go_simp
        all_goals with_reducible rfl
      try simp only [Act.put, List.setIfInBounds_toArray, List.set_cons_zero, List.set_cons_succ]
      refine wpAnyH_take (i := 20) (v := ?_) (arr_get (at_succ (at_succ (at_succ (at_succ (at_succ (at_succ (at_succ (at_succ (at_succ (at_succ (at_succ (at_succ (at_succ (at_succ (at_succ (at_succ (at_succ (at_succ (at_succ (at_succ at_zero))))))))))))))))))))) (by kernel_rfl) (by kernel_rfl) (by kernel_rfl) (fun _ _ _ h => h) (Or.inl ⟨by rfl, ?_⟩) (by assumption) ?_
      rotate_left
      · intro w9 hSw
        try dsimp only at hSw
        go_simp
        all_goals with_reducible rfl
      try simp only [Act.put, List.setIfInBounds_toArray, List.set_cons_zero, List.set_cons_succ]
      refine wpAnyH_take (i := 21) (v := ?_) (arr_get (at_succ (at_succ (at_succ (at_succ (at_succ (at_succ (at_succ (at_succ (at_succ (at_succ (at_succ (at_succ (at_succ (at_succ (at_succ (at_succ (at_succ (at_succ (at_succ (at_succ (at_succ at_zero)))))))))))))))))))))) (by kernel_rfl) (by kernel_rfl) (by kernel_rfl) (fun _ _ _ h => h) (Or.inl ⟨by rfl, ?_⟩) (by assumption) ?_
      rotate_left
      · intro w9 hSw
        try dsimp only at hSw
        go_simp
        all_goals with_reducible rfl
      try simp only [Act.put, List.setIfInBounds_toArray, List.set_cons_zero, List.set_cons_succ]
      refine wpAnyH_take (i := 22) (v := ?_) (arr_get (at_succ (at_succ (at_succ (at_succ (at_succ (at_succ (at_succ (at_succ (at_succ (at_succ (at_succ (at_succ (at_succ (at_succ (at_succ (at_succ (at_succ (at_succ (at_succ (at_succ (at_succ (at_succ at_zero))))))))))))))))))))))) (by kernel_rfl) (by kernel_rfl) (by kernel_rfl) (fun _ _ _ h => h) (Or.inl ⟨by rfl, ?_⟩) (by assumption) ?_
      rotate_left
      · intro w9 hSw
        try dsimp only at hSw
        go_simp
        all_goals with_reducible rfl
      try simp only [Act.put, List.setIfInBounds_toArray, List.set_cons_zero, List.set_cons_succ]
      refine wpAnyH_take (i := 23) (v := ?_) (arr_get (at_succ (at_succ (at_succ (at_succ (at_succ (at_succ (at_succ (at_succ (at_succ (at_succ (at_succ (at_succ (at_succ (at_succ (at_succ (at_succ (at_succ (at_succ (at_succ (at_succ (at_succ (at_succ (at_succ at_zero)))))))))))))))))))))))) (by kernel_rfl) (by kernel_rfl) (by kernel_rfl) (fun _ _ _ h => h) (Or.inl ⟨by rfl, ?_⟩) (by assumption) ?_
      rotate_left
      · intro w9 hSw
        try dsimp only at hSw
        go_simp
        all_goals with_reducible rfl
      try simp only [Act.put, List.setIfInBounds_toArray, List.set_cons_zero, List.set_cons_succ]
      refine wpAnyH_take (i := 24) (v := ?_) (arr_get (at_succ (at_succ (at_succ (at_succ (at_succ (at_succ (at_succ (at_succ (at_succ (at_succ (at_succ (at_succ (at_succ (at_succ (at_succ (at_succ (at_succ (at_succ (at_succ (at_succ (at_succ (at_succ (at_succ (at_succ at_zero))))))))))))))))))))))))) (by kernel_rfl) (by kernel_rfl) (by kernel_rfl) (fun _ _ _ h => h) (Or.inl ⟨by rfl, ?_⟩) (by assumption) ?_
      rotate_left
      · intro w9 hSw
        try dsimp only at hSw
        go_simp
        all_goals with_reducible rfl
      try simp only [Act.put, List.setIfInBounds_toArray, List.set_cons_zero, List.set_cons_succ]
      refine wpAnyH_take (i := 25) (v := ?_) (arr_get (at_succ (at_succ (at_succ (at_succ (at_succ (at_succ (at_succ (at_succ (at_succ (at_succ (at_succ (at_succ (at_succ (at_succ (at_succ (at_succ (at_succ (at_succ (at_succ (at_succ (at_succ (at_succ (at_succ (at_succ (at_succ at_zero)))))))))))))))))))))))))) (by kernel_rfl) (by kernel_rfl) (by kernel_rfl) (fun _ _ _ h => h) (Or.inl ⟨by rfl, ?_⟩) (by assumption) ?_
      rotate_left
      · intro w9 hSw
        try dsimp only at hSw
        go_simp
        all_goals with_reducible rfl
      try simp only [Act.put, List.setIfInBounds_toArray, List.set_cons_zero, List.set_cons_succ]
      refine wpAnyH_take (i := 26) (v := ?_) (arr_get (at_succ (at_succ (at_succ (at_succ (at_succ (at_succ (at_succ (at_succ (at_succ (at_succ (at_succ (at_succ (at_succ (at_succ (at_succ (at_succ (at_succ (at_succ (at_succ (at_succ (at_succ (at_succ (at_succ (at_succ (at_succ (at_succ at_zero))))))))))))))))))))))))))) (by kernel_rfl) (by kernel_rfl) (by kernel_rfl) (fun _ _ _ h => h) (Or.inl ⟨by rfl, ?_⟩) (by assumption) ?_
      rotate_left
      · intro w9 hSw
        try dsimp only at hSw
        go_simp
        all_goals with_reducible rfl
      try simp only [Act.put, List.setIfInBounds_toArray, List.set_cons_zero, List.set_cons_succ]
      refine wpAnyH_ready (rs := [27]) (by kernel_rfl) (by simp) ?_
      refine AllReadyH.cons (arr_get (at_succ (at_succ (at_succ (at_succ (at_succ (at_succ (at_succ (at_succ (at_succ (at_succ (at_succ (at_succ (at_succ (at_succ (at_succ (at_succ (at_succ (at_succ (at_succ (at_succ (at_succ (at_succ (at_succ (at_succ (at_succ (at_succ (at_succ at_zero)))))))))))))))))))))))))))) (fun K hK => ?_) AllReadyH.nil
      go_simp
      go_at_call 24
      with_reducible refine (hT3.out _ (by assumption)).mono ?_
      rintro e w5 ⟨rfl, hb5⟩
      have hB5 := bchain (show Below W.heap.size W _ by assumption) hb5
      try go_wp2_with fail
      refine hK.out _ _ (by (try dsimp only); with_reducible exact hS.out _ hB5) (fun hHeld => ?_)
      clear hK K
      try simp only [Act.put, List.setIfInBounds_toArray, List.set_cons_zero, List.set_cons_succ]
      refine wpAnyH_take (i := 28) (v := ?_) (arr_get (at_succ (at_succ (at_succ (at_succ (at_succ (at_succ (at_succ (at_succ (at_succ (at_succ (at_succ (at_succ (at_succ (at_succ (at_succ (at_succ (at_succ (at_succ (at_succ (at_succ (at_succ (at_succ (at_succ (at_succ (at_succ (at_succ (at_succ (at_succ at_zero))))))))))))))))))))))))))))) (by kernel_rfl) (by kernel_rfl) (by kernel_rfl) (fun _ _ _ h => h) (Or.inl ⟨by rfl, ?_⟩) (by assumption) ?_
      rotate_left
      · intro w9 hSw
        try dsimp only at hSw
        go_simp
        all_goals with_reducible rfl
      try simp only [Act.put, List.setIfInBounds_toArray, List.set_cons_zero, List.set_cons_succ]
      refine wpAnyH_take (i := 29) (v := ?_) (arr_get (at_succ (at_succ (at_succ (at_succ (at_succ (at_succ (at_succ (at_succ (at_succ (at_succ (at_succ (at_succ (at_succ (at_succ (at_succ (at_succ (at_succ (at_succ (at_succ (at_succ (at_succ (at_succ (at_succ (at_succ (at_succ (at_succ (at_succ (at_succ (at_succ at_zero)))))))))))))))))))))))))))))) (by kernel_rfl) (by kernel_rfl) (by kernel_rfl) (fun _ _ _ h => h) (Or.inl ⟨by rfl, ?_⟩) (by assumption) ?_
      rotate_left
      · intro w9 hSw
        try dsimp only at hSw
        go_simp
        all_goals with_reducible rfl
      try simp only [Act.put, List.setIfInBounds_toArray, List.set_cons_zero, List.set_cons_succ]
      refine wpAnyH_take (i := 30) (v := ?_) (arr_get (at_succ (at_succ (at_succ (at_succ (at_succ (at_succ (at_succ (at_succ (at_succ (at_succ (at_succ (at_succ (at_succ (at_succ (at_succ (at_succ (at_succ (at_succ (at_succ (at_succ (at_succ (at_succ (at_succ (at_succ (at_succ (at_succ (at_succ (at_succ (at_succ (at_succ at_zero))))))))))))))))))))))))))))))) (by kernel_rfl) (by kernel_rfl) (by kernel_rfl) (fun _ _ _ h => h) (Or.inl ⟨by rfl, ?_⟩) (by assumption) ?_
      rotate_left
      · intro w9 hSw
        try dsimp only at hSw
        go_simp
        all_goals with_reducible rfl
      try simp only [Act.put, List.setIfInBounds_toArray, List.set_cons_zero, List.set_cons_succ]
      refine wpAnyH_take (i := 31) (v := ?_) (arr_get (at_succ (at_succ (at_succ (at_succ (at_succ (at_succ (at_succ (at_succ (at_succ (at_succ (at_succ (at_succ (at_succ (at_succ (at_succ (at_succ (at_succ (at_succ (at_succ (at_succ (at_succ (at_succ (at_succ (at_succ (at_succ (at_succ (at_succ (at_succ (at_succ (at_succ (at_succ at_zero)))))))))))))))))))))))))))))))) (by kernel_rfl) (by kernel_rfl) (by kernel_rfl) (fun _ _ _ h => h) (Or.inl ⟨by rfl, ?_⟩) (by assumption) ?_
      rotate_left
      · intro w9 hSw
        try dsimp only at hSw
        go_simp
        all_goals with_reducible rfl
      try simp only [Act.put, List.setIfInBounds_toArray, List.set_cons_zero, List.set_cons_succ]
      refine wpAnyH_take (i := 32) (v := ?_) (arr_get (at_succ (at_succ (at_succ (at_succ (at_succ (at_succ (at_succ (at_succ (at_succ (at_succ (at_succ (at_succ (at_succ (at_succ (at_succ (at_succ (at_succ (at_succ (at_succ (at_succ (at_succ (at_succ (at_succ (at_succ (at_succ (at_succ (at_succ (at_succ (at_succ (at_succ (at_succ (at_succ at_zero))))))))))))))))))))))))))))))))) (by kernel_rfl) (by kernel_rfl) (by kernel_rfl) (fun _ _ _ h => h) (Or.inl ⟨by rfl, ?_⟩) (by assumption) ?_
      rotate_left
      · intro w9 hSw
        try dsimp only at hSw
        go_simp
        all_goals with_reducible rfl
      try simp only [Act.put, List.setIfInBounds_toArray, List.set_cons_zero, List.set_cons_succ]
      refine wpAnyH_take (i := 33) (v := undef) (arr_get (at_succ (at_succ (at_succ (at_succ (at_succ (at_succ (at_succ (at_succ (at_succ (at_succ (at_succ (at_succ (at_succ (at_succ (at_succ (at_succ (at_succ (at_succ (at_succ (at_succ (at_succ (at_succ (at_succ (at_succ (at_succ (at_succ (at_succ (at_succ (at_succ (at_succ (at_succ (at_succ (at_succ at_zero)))))))))))))))))))))))))))))))))) (by kernel_rfl) (by kernel_rfl) (by kernel_rfl) (fun _ _ _ h => h) (Or.inr ⟨by rfl, rfl⟩) (by assumption) ?_
      try simp only [Act.put, List.setIfInBounds_toArray, List.set_cons_zero, List.set_cons_succ]
      refine wpAnyH_take (i := 35) (v := undef) (arr_get (at_succ (at_succ (at_succ (at_succ (at_succ (at_succ (at_succ (at_succ (at_succ (at_succ (at_succ (at_succ (at_succ (at_succ (at_succ (at_succ (at_succ (at_succ (at_succ (at_succ (at_succ (at_succ (at_succ (at_succ (at_succ (at_succ (at_succ (at_succ (at_succ (at_succ (at_succ (at_succ (at_succ (at_succ (at_succ at_zero)))))))))))))))))))))))))))))))))))) (by kernel_rfl) (by kernel_rfl) (by kernel_rfl) (fun _ _ _ h => h) (Or.inr ⟨by rfl, rfl⟩) (by assumption) ?_
      try simp only [Act.put, List.setIfInBounds_toArray, List.set_cons_zero, List.set_cons_succ]
      refine wpAnyH_ready (rs := [34]) (by kernel_rfl) (by simp) ?_
      refine AllReadyH.cons (arr_get (at_succ (at_succ (at_succ (at_succ (at_succ (at_succ (at_succ (at_succ (at_succ (at_succ (at_succ (at_succ (at_succ (at_succ (at_succ (at_succ (at_succ (at_succ (at_succ (at_succ (at_succ (at_succ (at_succ (at_succ (at_succ (at_succ (at_succ (at_succ (at_succ (at_succ (at_succ (at_succ (at_succ (at_succ at_zero))))))))))))))))))))))))))))))))))) (fun K hK => ?_) AllReadyH.nil
      go_simp
      refine hK.out _ _ (by (try dsimp only); assumption) (fun hHeld => ?_)
      clear hK K
      try simp only [Act.put, List.setIfInBounds_toArray, List.set_cons_zero, List.set_cons_succ]
      refine wpAnyH_take (i := 36) (v := undef) (arr_get (at_succ (at_succ (at_succ (at_succ (at_succ (at_succ (at_succ (at_succ (at_succ (at_succ (at_succ (at_succ (at_succ (at_succ (at_succ (at_succ (at_succ (at_succ (at_succ (at_succ (at_succ (at_succ (at_succ (at_succ (at_succ (at_succ (at_succ (at_succ (at_succ (at_succ (at_succ (at_succ (at_succ (at_succ (at_succ (at_succ at_zero))))))))))))))))))))))))))))))))))))) (by kernel_rfl) (by kernel_rfl) (by kernel_rfl) (fun _ _ _ h => h) (Or.inr ⟨by rfl, rfl⟩) (by assumption) ?_
      try simp only [Act.put, List.setIfInBounds_toArray, List.set_cons_zero, List.set_cons_succ]
      refine wpAnyH_take (i := 37) (v := ?_) (arr_get (at_succ (at_succ (at_succ (at_succ (at_succ (at_succ (at_succ (at_succ (at_succ (at_succ (at_succ (at_succ (at_succ (at_succ (at_succ (at_succ (at_succ (at_succ (at_succ (at_succ (at_succ (at_succ (at_succ (at_succ (at_succ (at_succ (at_succ (at_succ (at_succ (at_succ (at_succ (at_succ (at_succ (at_succ (at_succ (at_succ (at_succ at_zero)))))))))))))))))))))))))))))))))))))) (by kernel_rfl) (by kernel_rfl) (by kernel_rfl) (fun _ _ _ h => h) (Or.inl ⟨by rfl, ?_⟩) (by assumption) ?_
      rotate_left
      · intro w9 hSw
        try dsimp only at hSw
        go_simp
        all_goals with_reducible rfl
      try simp only [Act.put, List.setIfInBounds_toArray, List.set_cons_zero, List.set_cons_succ]
      refine wpAnyH_take (i := 38) (v := ?_) (arr_get (at_succ (at_succ (at_succ (at_succ (at_succ (at_succ (at_succ (at_succ (at_succ (at_succ (at_succ (at_succ (at_succ (at_succ (at_succ (at_succ (at_succ (at_succ (at_succ (at_succ (at_succ (at_succ (at_succ (at_succ (at_succ (at_succ (at_succ (at_succ (at_succ (at_succ (at_succ (at_succ (at_succ (at_succ (at_succ (at_succ (at_succ (at_succ at_zero))))))))))))))))))))))))))))))))))))))) (by kernel_rfl) (by kernel_rfl) (by kernel_rfl) (fun _ _ _ h => h) (Or.inl ⟨by rfl, ?_⟩) (by assumption) ?_
      rotate_left
      · intro w9 hSw
        try dsimp only at hSw
        go_simp
        all_goals with_reducible rfl
      try simp only [Act.put, List.setIfInBounds_toArray, List.set_cons_zero, List.set_cons_succ]
      refine wpAnyH_take (i := 39) (v := ?_) (arr_get (at_succ (at_succ (at_succ (at_succ (at_succ (at_succ (at_succ (at_succ (at_succ (at_succ (at_succ (at_succ (at_succ (at_succ (at_succ (at_succ (at_succ (at_succ (at_succ (at_succ (at_succ (at_succ (at_succ (at_succ (at_succ (at_succ (at_succ (at_succ (at_succ (at_succ (at_succ (at_succ (at_succ (at_succ (at_succ (at_succ (at_succ (at_succ (at_succ at_zero)))))))))))))))))))))))))))))))))))))))) (by kernel_rfl) (by kernel_rfl) (by kernel_rfl) (fun _ _ _ h => h) (Or.inl ⟨by rfl, ?_⟩) (by assumption) ?_
      rotate_left
      · intro w9 hSw
        try dsimp only at hSw
        go_simp
        all_goals with_reducible rfl
      try simp only [Act.put, List.setIfInBounds_toArray, List.set_cons_zero, List.set_cons_succ]
      refine wpAnyH_take (i := 40) (v := ?_) (arr_get (at_succ (at_succ (at_succ (at_succ (at_succ (at_succ (at_succ (at_succ (at_succ (at_succ (at_succ (at_succ (at_succ (at_succ (at_succ (at_succ (at_succ (at_succ (at_succ (at_succ (at_succ (at_succ (at_succ (at_succ (at_succ (at_succ (at_succ (at_succ (at_succ (at_succ (at_succ (at_succ (at_succ (at_succ (at_succ (at_succ (at_succ (at_succ (at_succ (at_succ at_zero))))))))))))))))))))))))))))))))))))))))) (by kernel_rfl) (by kernel_rfl) (by kernel_rfl) (fun _ _ _ h => h) (Or.inl ⟨by rfl, ?_⟩) (by assumption) ?_
      rotate_left
      · intro w9 hSw
        try dsimp only at hSw
        go_simp
        all_goals with_reducible rfl
      try simp only [Act.put, List.setIfInBounds_toArray, List.set_cons_zero, List.set_cons_succ]
      refine wpAnyH_take (i := 41) (v := ?_) (arr_get (at_succ (at_succ (at_succ (at_succ (at_succ (at_succ (at_succ (at_succ (at_succ (at_succ (at_succ (at_succ (at_succ (at_succ (at_succ (at_succ (at_succ (at_succ (at_succ (at_succ (at_succ (at_succ (at_succ (at_succ (at_succ (at_succ (at_succ (at_succ (at_succ (at_succ (at_succ (at_succ (at_succ (at_succ (at_succ (at_succ (at_succ (at_succ (at_succ (at_succ (at_succ at_zero)))))))))))))))))))))))))))))))))))))))))) (by kernel_rfl) (by kernel_rfl) (by kernel_rfl) (fun _ _ _ h => h) (Or.inl ⟨by rfl, ?_⟩) (by assumption) ?_
      rotate_left
      · intro w9 hSw
        try dsimp only at hSw
        go_simp
        all_goals with_reducible rfl
      try simp only [Act.put, List.setIfInBounds_toArray, List.set_cons_zero, List.set_cons_succ]
      refine wpAnyH_take (i := 43) (v := ?_) (arr_get (at_succ (at_succ (at_succ (at_succ (at_succ (at_succ (at_succ (at_succ (at_succ (at_succ (at_succ (at_succ (at_succ (at_succ (at_succ (at_succ (at_succ (at_succ (at_succ (at_succ (at_succ (at_succ (at_succ (at_succ (at_succ (at_succ (at_succ (at_succ (at_succ (at_succ (at_succ (at_succ (at_succ (at_succ (at_succ (at_succ (at_succ (at_succ (at_succ (at_succ (at_succ (at_succ (at_succ at_zero)))))))))))))))))))))))))))))))))))))))))))) (by kernel_rfl) (by kernel_rfl) (by kernel_rfl) (fun _ _ _ h => h) (Or.inl ⟨by rfl, ?_⟩) (by assumption) ?_
      rotate_left
      · intro w9 hSw
        try dsimp only at hSw
        go_simp
        all_goals with_reducible rfl
      try simp only [Act.put, List.setIfInBounds_toArray, List.set_cons_zero, List.set_cons_succ]
      refine wpAnyH_take (i := 44) (v := ?_) (arr_get (at_succ (at_succ (at_succ (at_succ (at_succ (at_succ (at_succ (at_succ (at_succ (at_succ (at_succ (at_succ (at_succ (at_succ (at_succ (at_succ (at_succ (at_succ (at_succ (at_succ (at_succ (at_succ (at_succ (at_succ (at_succ (at_succ (at_succ (at_succ (at_succ (at_succ (at_succ (at_succ (at_succ (at_succ (at_succ (at_succ (at_succ (at_succ (at_succ (at_succ (at_succ (at_succ (at_succ (at_succ at_zero))))))))))))))))))))))))))))))))))))))))))))) (by kernel_rfl) (by kernel_rfl) (by kernel_rfl) (fun _ _ _ h => h) (Or.inl ⟨by rfl, ?_⟩) (by assumption) ?_
      rotate_left
      · intro w9 hSw
        try dsimp only at hSw
        go_simp
        all_goals with_reducible rfl
      try simp only [Act.put, List.setIfInBounds_toArray, List.set_cons_zero, List.set_cons_succ]
      refine wpAnyH_ready (rs := [42]) (by kernel_rfl) (by simp) ?_
      refine AllReadyH.cons (arr_get (at_succ (at_succ (at_succ (at_succ (at_succ (at_succ (at_succ (at_succ (at_succ (at_succ (at_succ (at_succ (at_succ (at_succ (at_succ (at_succ (at_succ (at_succ (at_succ (at_succ (at_succ (at_succ (at_succ (at_succ (at_succ (at_succ (at_succ (at_succ (at_succ (at_succ (at_succ (at_succ (at_succ (at_succ (at_succ (at_succ (at_succ (at_succ (at_succ (at_succ (at_succ (at_succ at_zero))))))))))))))))))))))))))))))))))))))))))) (fun K hK => ?_) AllReadyH.nil
      go_simp
      go_at_call 25
      with_reducible refine (hT5.out _ (by assumption)).mono ?_
      rintro e w5 ⟨rfl, hb5⟩
      have hB5 := bchain (show Below W.heap.size W _ by assumption) hb5
      try go_wp2_with fail
      refine hK.out _ _ (by (try dsimp only); with_reducible exact hS.out _ hB5) (fun hHeld => ?_)
      clear hK K
      try simp only [Act.put, List.setIfInBounds_toArray, List.set_cons_zero, List.set_cons_succ]
      refine wpAnyH_ready (rs := [45]) (by kernel_rfl) (by simp) ?_
      refine AllReadyH.cons (arr_get (at_succ (at_succ (at_succ (at_succ (at_succ (at_succ (at_succ (at_succ (at_succ (at_succ (at_succ (at_succ (at_succ (at_succ (at_succ (at_succ (at_succ (at_succ (at_succ (at_succ (at_succ (at_succ (at_succ (at_succ (at_succ (at_succ (at_succ (at_succ (at_succ (at_succ (at_succ (at_succ (at_succ (at_succ (at_succ (at_succ (at_succ (at_succ (at_succ (at_succ (at_succ (at_succ (at_succ (at_succ (at_succ at_zero)))))))))))))))))))))))))))))))))))))))))))))) (fun K hK => ?_) AllReadyH.nil
      go_simp
      go_at_call 24
      with_reducible refine (hT6.out _ (by assumption)).mono ?_
      rintro e w5 ⟨rfl, hb5⟩
      have hB5 := bchain (show Below W.heap.size W _ by assumption) hb5
      try go_wp2_with fail
      refine hK.out _ _ (by (try dsimp only); with_reducible exact hS.out _ hB5) (fun hHeld => ?_)
      clear hK K
      try simp only [Act.put, List.setIfInBounds_toArray, List.set_cons_zero, List.set_cons_succ]
      refine wpAnyH_take (i := 46) (v := ?_) (arr_get (at_succ (at_succ (at_succ (at_succ (at_succ (at_succ (at_succ (at_succ (at_succ (at_succ (at_succ (at_succ (at_succ (at_succ (at_succ (at_succ (at_succ (at_succ (at_succ (at_succ (at_succ (at_succ (at_succ (at_succ (at_succ (at_succ (at_succ (at_succ (at_succ (at_succ (at_succ (at_succ (at_succ (at_succ (at_succ (at_succ (at_succ (at_succ (at_succ (at_succ (at_succ (at_succ (at_succ (at_succ (at_succ (at_succ at_zero))))))))))))))))))))))))))))))))))))))))))))))) (by kernel_rfl) (by kernel_rfl) (by kernel_rfl) (fun _ _ _ h => h) (Or.inl ⟨by rfl, ?_⟩) (by assumption) ?_
      rotate_left
      · intro w9 hSw
        try dsimp only at hSw
        go_simp
        all_goals with_reducible rfl
      try simp only [Act.put, List.setIfInBounds_toArray, List.set_cons_zero, List.set_cons_succ]
      refine wpAnyH_take (i := 47) (v := ?_) (arr_get (at_succ (at_succ (at_succ (at_succ (at_succ (at_succ (at_succ (at_succ (at_succ (at_succ (at_succ (at_succ (at_succ (at_succ (at_succ (at_succ (at_succ (at_succ (at_succ (at_succ (at_succ (at_succ (at_succ (at_succ (at_succ (at_succ (at_succ (at_succ (at_succ (at_succ (at_succ (at_succ (at_succ (at_succ (at_succ (at_succ (at_succ (at_succ (at_succ (at_succ (at_succ (at_succ (at_succ (at_succ (at_succ (at_succ (at_succ at_zero)))))))))))))))))))))))))))))))))))))))))))))))) (by kernel_rfl) (by kernel_rfl) (by kernel_rfl) (fun _ _ _ h => h) (Or.inl ⟨by rfl, ?_⟩) (by assumption) ?_
      rotate_left
      · intro w9 hSw
        try dsimp only at hSw
        go_simp
        all_goals with_reducible rfl
      try simp only [Act.put, List.setIfInBounds_toArray, List.set_cons_zero, List.set_cons_succ]
      refine wpAnyH_take (i := 48) (v := ?_) (arr_get (at_succ (at_succ (at_succ (at_succ (at_succ (at_succ (at_succ (at_succ (at_succ (at_succ (at_succ (at_succ (at_succ (at_succ (at_succ (at_succ (at_succ (at_succ (at_succ (at_succ (at_succ (at_succ (at_succ (at_succ (at_succ (at_succ (at_succ (at_succ (at_succ (at_succ (at_succ (at_succ (at_succ (at_succ (at_succ (at_succ (at_succ (at_succ (at_succ (at_succ (at_succ (at_succ (at_succ (at_succ (at_succ (at_succ (at_succ (at_succ at_zero))))))))))))))))))))))))))))))))))))))))))))))))) (by kernel_rfl) (by kernel_rfl) (by kernel_rfl) (fun _ _ _ h => h) (Or.inl ⟨by rfl, ?_⟩) (by assumption) ?_
      rotate_left
      · intro w9 hSw
        try dsimp only at hSw
        go_simp
        all_goals with_reducible rfl
      try simp only [Act.put, List.setIfInBounds_toArray, List.set_cons_zero, List.set_cons_succ]
      refine wpAnyH_done (by kernel_rfl) ?_ _
      refine NoPanic.normal ?_
      go_wp2
      go_ret
      exact ⟨by first | rfl | (simp; done), bchain HB.out (by assumption)⟩
set_option maxRecDepth 100000 in
theorem fnPassingTexts_walk (w : World) (A : Option Addr) (n c : Nat) (xs : List Int) (hK : Came .u8 w A n c xs) :
    Calls Try.prog 4 #[.slice A n c] w fun e w' => e = .returned (.bool true) ∧ Below w.heap.size w w' := by
  by_cases h : n ≤ 4096
  · exact fnPassingTexts_main w A n c xs hK h
  · have hq : decide (4096 < n) = true := by simp; omega
    have h1 := hK.2.1; have h2 := hK.2.2.1
    unfold maxLen at h2
    have hL := f6big_any A n c w (by omega)
    rw [hq] at hL
    have hL := hid hL
    clear hK h hq
    go_enter Try.func4, Try.ntmps4
    go_wp2_with (go_at_call 9; refine (hL.out).mono ?_; rintro e w' ⟨rfl, rfl⟩)
    go_ret
    exact ⟨rfl, (by repeat' (first | exact Below.refl _ _ | (with_reducible assumption) | (with_reducible refine Below.alloc ?_ ?_ _) | (with_reducible refine Below.setCell ?_ ?_ _) | (with_reducible refine Below.drew ?_) | (with_reducible refine below_drewN ?_ _) | (refine Below.trans ?_ (Below.mono (by assumption) ?_)) | (with_reducible exact Nat.le_refl _) | (with_reducible assumption) | (exact Below.size (by assumption)) | omega | go_size | (simp at *; omega)))⟩
end Go.Proofs.Ytlbhfjbbkkkldaa
