/- The walk of the law FnMultiTexts. -/
import Derived.Test.YtlbhfjbbkkkldaaMh
import Derived.Test.YtlbhfjbbkkkldaaMi
import Derived.Test.YtlbhfjbbkkkldaaNc
import Derived.Test.YtlbhfjbbkkkldaaNd
import Derived.Test.YtlbhfjbbkkkldaaF6
namespace Go.Proofs.Ytlbhfjbbkkkldaa
open Go.RowKit
set_option linter.unusedVariables false

theorem rReadM_len {l : List UInt8} {R : List (List Int)} {one : Bool} (h : rReadMulti l = (R, one)) : R.length ≤ 12 ∧ ∀ r ∈ R, r.length ≤ 4 := by
  cases one with
  | true =>
    have h1 := msSh_iff.1 (mOk_iff.1 (multi_back h).1).1
    exact ⟨h1.1.2, fun r hr => (mstOk_iff.1 (h1.2 r hr)).1.2⟩
  | false =>
    have : R = [] := by
      unfold rReadMulti at h
      cases hm : rdM l with
      | none => rw [hm] at h; injection h with h _; exact h.symm
      | some q =>
        rw [hm] at h
        have h2 : (if mOk q then (q, true) else ([], false)) = (R, false) := h
        split at h2
        · injection h2 with _ h2; cases h2
        · injection h2 with h2 _; exact h2.symm
    subst this
    exact ⟨Nat.zero_le _, by simp⟩
theorem rReadM_empty : rReadMulti (tl (⟨#[]⟩ : ByteArray)) = ([], false) := rfl
theorem same_rows {p : List (List Int)} : decide (p = p) = true := decide_eq_true rfl

set_option maxRecDepth 100000 in
set_option maxHeartbeats 4000000 in
theorem fnMultiTexts_main (w : World) (A : Option Addr) (n c : Nat) (xs : List Int) (hK : Came .u8 w A n c xs) (hl : n ≤ 4096) :
    Calls Try.prog 3 #[.slice A n c] w fun e w' => e = .returned (.bool true) ∧ Below w.heap.size w w' := by
  have hq : decide (4096 < n) = false := by simp; omega
  have hL := f6big_any A n c w (by omega)
  rw [hq] at hL
  have hL := hid hL
  have hR := hid (fun (w1 : World) (b : Below w.heap.size w w1) => ((Rd.of_came hK).below b (Nat.le_refl _)).more b.size)
  have hX := hid hK.bytes
  have HB : Hid (Below w.heap.size w w) := Below.refl _ _
  clear hK hq
  go_enter Try.func3, Try.ntmps3
  go_wp2_with (go_at_call 9; refine (hL.out).mono ?_; rintro e w' ⟨rfl, rfl⟩)
  refine (DrawMultiText_any A n c xs _ (by omega) hX.out (hR.out _ HB.out)).mono ?_
  rintro e w1 ⟨⟨A1, n1, c1, rfl, p, hm1, hn1, hr1⟩, hb1⟩
  have HL1 : Hid (∀ r ∈ p, r.length ≤ 1099511627776) := fun r hr => by have := hr1 r hr; omega
  have HM1 := hid hm1.rd
  clear hm1 hr1 hL
  have HB := hid (bchain HB.out hb1)
  have hal : Below w1.heap.size w1 (w1.alloc (Obj.cells #[.slice A1 n1 c1] 26)) := (by repeat' (first | exact Below.refl _ _ | (with_reducible assumption) | (with_reducible refine Below.alloc ?_ ?_ _) | (with_reducible refine Below.setCell ?_ ?_ _) | (with_reducible refine Below.drew ?_) | (with_reducible refine below_drewN ?_ _) | (refine Below.trans ?_ (Below.mono (by assumption) ?_)) | (with_reducible exact Nat.le_refl _) | (with_reducible assumption) | (exact Below.size (by assumption)) | omega | go_size | (simp at *; omega)))
  have X1 := hid (Bx.new w1 26 #[.slice A1 n1 c1])
  have M1 := hid ((HM1.out.below hal (Nat.le_refl _)).more hal.size)
  have HB := hid (bchain HB.out hal)
  clear hal
  clear hb1
  clear HM1
  obtain ⟨t, ht⟩ : ∃ t, st (rMultiText p) = t := ⟨_, rfl⟩
  have hTs : t.size ≤ 100 := by
    rw [← ht, st_size]; unfold rMultiText; split
    · rename_i h; have := msSh_tlen (mOk_iff.1 h).1; omega
    · simp
  have hTT := toList_eqq t
  have HT := hid ht
  clear ht
  have hC := MultiText_any A1 n1 c1 p (w1.alloc (Obj.cells #[.slice A1 n1 c1] 26)) (by omega) HL1.out M1.out
  rw [HT.out] at hC
  replace hC := hid hC
  go_wp2_with fail
  refine (hC.out).mono ?_
  rintro e w2 ⟨rfl, hb2⟩
  try clear l1
  try clear x1
  clear hC
  have X1 := hid (X1.out.below hb2 X1.out.lt)
  have M1 := hid ((M1.out.below hb2 (Nat.le_refl _)).more hb2.size)
  have HB := hid (bchain HB.out hb2)
  have l1 : w1.heap.size < w2.heap.size := X1.out.lt
  have x1 : w2.cell? ⟨w1.heap.size, 0, none⟩ = some (.slice A1 n1 c1) := bx_c0 X1.out
  clear hb2
  cases hp : mOk p with
  | true =>
    have HBK : Hid (rReadMulti (tl t) = (p, true)) := by show _ = _; rw [← HT.out, tl_st, rMultiText, hp]; exact multi_there hp
    have hiE : t.toList.isEmpty = false := by
      rw [tl_empty, ← HT.out, tl_st, rMultiText, hp]; exact decide_eq_false (mT_ne hp)
    clear hp
    have hC := ReadMulti_any t w2 (by first | omega | decide)
    rw [HBK.out] at hC
    replace hC := hid hC
    go_wp2_with fail
    refine (hC.out).mono ?_
    rintro e w3 ⟨⟨A2, c2, rfl, ho2⟩, hb3⟩
    try clear l1
    try clear x1
    clear hC
    simp only at ho2
    have HO2 := hid ho2.read
    clear ho2
    have X1 := hid (X1.out.below hb3 X1.out.lt)
    have M1 := hid ((M1.out.below hb3 (Nat.le_refl _)).more hb3.size)
    have HB := hid (bchain HB.out hb3)
    have l1 : w1.heap.size < w3.heap.size := X1.out.lt
    have x1 : w3.cell? ⟨w1.heap.size, 0, none⟩ = some (.slice A1 n1 c1) := bx_c0 X1.out
    have hal : Below w3.heap.size w3 (w3.alloc (Obj.cells #[.slice A2 p.length c2] 26)) := (by repeat' (first | exact Below.refl _ _ | (with_reducible assumption) | (with_reducible refine Below.alloc ?_ ?_ _) | (with_reducible refine Below.setCell ?_ ?_ _) | (with_reducible refine Below.drew ?_) | (with_reducible refine below_drewN ?_ _) | (refine Below.trans ?_ (Below.mono (by assumption) ?_)) | (with_reducible exact Nat.le_refl _) | (with_reducible assumption) | (exact Below.size (by assumption)) | omega | go_size | (simp at *; omega)))
    have X1 := hid (X1.out.alloc (Obj.cells #[.slice A2 p.length c2] 26))
    have M1 := hid ((M1.out.below hal (Nat.le_refl _)).more hal.size)
    have X2 := hid (Bx.new w3 26 #[.slice A2 p.length c2])
    have M2 := hid ((HO2.out.below hal (Nat.le_refl _)).more hal.size)
    have HB := hid (bchain HB.out hal)
    clear hal
    clear hb3
    clear HO2
    go_wp2_with fail
    refine (DrawReadMulti_any A n c xs _ (by omega) hX.out (hR.out _ HB.out)).mono ?_
    rintro e w4 ⟨⟨S, hS, rfl⟩, hb4⟩
    try clear l1 l2
    try clear x1 x2
    have X1 := hid (X1.out.below hb4 X1.out.lt)
    have M1 := hid ((M1.out.below hb4 (Nat.le_refl _)).more hb4.size)
    have X2 := hid (X2.out.below hb4 X2.out.lt)
    have M2 := hid ((M2.out.below hb4 (Nat.le_refl _)).more hb4.size)
    have HB := hid (bchain HB.out hb4)
    have l1 : w1.heap.size < w4.heap.size := X1.out.lt
    have x1 : w4.cell? ⟨w1.heap.size, 0, none⟩ = some (.slice A1 n1 c1) := bx_c0 X1.out
    have l2 : w3.heap.size < w4.heap.size := X2.out.lt
    have x2 : w4.cell? ⟨w3.heap.size, 0, none⟩ = some (.slice A2 p.length c2) := bx_c0 X2.out
    clear hb4
    obtain ⟨⟨R, one⟩, hR2⟩ : ∃ x, rReadMulti (tl S) = x := ⟨_, rfl⟩
    have HRL := hid (rReadM_len hR2)
    have HR := hid hR2
    have HRR : Hid (∀ r ∈ R, r.length ≤ 1099511627776) := fun r hr => by have := HRL.out.2 r hr; omega
    have hRn : R.length ≤ 1099511627776 := by have := HRL.out.1; omega
    have hSS := toList_eqq S
    clear hR2
    have hC := ReadMulti_any S w4 (by omega)
    rw [HR.out] at hC
    replace hC := hid hC
    go_wp2_with fail
    refine (hC.out).mono ?_
    rintro e w5 ⟨⟨A3, c3, rfl, ho3⟩, hb5⟩
    try clear l1 l2
    try clear x1 x2
    clear hC
    simp only at ho3
    have HO3 := hid ho3.read
    clear ho3
    have X1 := hid (X1.out.below hb5 X1.out.lt)
    have M1 := hid ((M1.out.below hb5 (Nat.le_refl _)).more hb5.size)
    have X2 := hid (X2.out.below hb5 X2.out.lt)
    have M2 := hid ((M2.out.below hb5 (Nat.le_refl _)).more hb5.size)
    have HB := hid (bchain HB.out hb5)
    have l1 : w1.heap.size < w5.heap.size := X1.out.lt
    have x1 : w5.cell? ⟨w1.heap.size, 0, none⟩ = some (.slice A1 n1 c1) := bx_c0 X1.out
    have l2 : w3.heap.size < w5.heap.size := X2.out.lt
    have x2 : w5.cell? ⟨w3.heap.size, 0, none⟩ = some (.slice A2 p.length c2) := bx_c0 X2.out
    have hal : Below w5.heap.size w5 (w5.alloc (Obj.cells #[.slice A3 R.length c3] 26)) := (by repeat' (first | exact Below.refl _ _ | (with_reducible assumption) | (with_reducible refine Below.alloc ?_ ?_ _) | (with_reducible refine Below.setCell ?_ ?_ _) | (with_reducible refine Below.drew ?_) | (with_reducible refine below_drewN ?_ _) | (refine Below.trans ?_ (Below.mono (by assumption) ?_)) | (with_reducible exact Nat.le_refl _) | (with_reducible assumption) | (exact Below.size (by assumption)) | omega | go_size | (simp at *; omega)))
    have X1 := hid (X1.out.alloc (Obj.cells #[.slice A3 R.length c3] 26))
    have M1 := hid ((M1.out.below hal (Nat.le_refl _)).more hal.size)
    have X2 := hid (X2.out.alloc (Obj.cells #[.slice A3 R.length c3] 26))
    have M2 := hid ((M2.out.below hal (Nat.le_refl _)).more hal.size)
    have X3 := hid (Bx.new w5 26 #[.slice A3 R.length c3])
    have M3 := hid ((HO3.out.below hal (Nat.le_refl _)).more hal.size)
    have HB := hid (bchain HB.out hal)
    clear hal
    clear hb5
    clear HO3
    have hC := specReadMulti_any S (w5.alloc (Obj.cells #[.slice A3 R.length c3] 26)) (by omega)
    rw [HR.out] at hC
    replace hC := hid hC
    go_wp2_with fail
    refine (hC.out).mono ?_
    rintro e w6 ⟨⟨A4, c4, rfl, ho4⟩, hb6⟩
    try clear l1 l2 l3
    try clear x1 x2 x3
    clear hC
    simp only at ho4
    have HO4 := hid ho4.read
    clear ho4
    have X1 := hid (X1.out.below hb6 X1.out.lt)
    have M1 := hid ((M1.out.below hb6 (Nat.le_refl _)).more hb6.size)
    have X2 := hid (X2.out.below hb6 X2.out.lt)
    have M2 := hid ((M2.out.below hb6 (Nat.le_refl _)).more hb6.size)
    have X3 := hid (X3.out.below hb6 X3.out.lt)
    have M3 := hid ((M3.out.below hb6 (Nat.le_refl _)).more hb6.size)
    have HB := hid (bchain HB.out hb6)
    have l1 : w1.heap.size < w6.heap.size := X1.out.lt
    have x1 : w6.cell? ⟨w1.heap.size, 0, none⟩ = some (.slice A1 n1 c1) := bx_c0 X1.out
    have l2 : w3.heap.size < w6.heap.size := X2.out.lt
    have x2 : w6.cell? ⟨w3.heap.size, 0, none⟩ = some (.slice A2 p.length c2) := bx_c0 X2.out
    have l3 : w5.heap.size < w6.heap.size := X3.out.lt
    have x3 : w6.cell? ⟨w5.heap.size, 0, none⟩ = some (.slice A3 R.length c3) := bx_c0 X3.out
    have hal : Below w6.heap.size w6 (w6.alloc (Obj.cells #[.slice A4 R.length c4] 26)) := (by repeat' (first | exact Below.refl _ _ | (with_reducible assumption) | (with_reducible refine Below.alloc ?_ ?_ _) | (with_reducible refine Below.setCell ?_ ?_ _) | (with_reducible refine Below.drew ?_) | (with_reducible refine below_drewN ?_ _) | (refine Below.trans ?_ (Below.mono (by assumption) ?_)) | (with_reducible exact Nat.le_refl _) | (with_reducible assumption) | (exact Below.size (by assumption)) | omega | go_size | (simp at *; omega)))
    have X1 := hid (X1.out.alloc (Obj.cells #[.slice A4 R.length c4] 26))
    have M1 := hid ((M1.out.below hal (Nat.le_refl _)).more hal.size)
    have X2 := hid (X2.out.alloc (Obj.cells #[.slice A4 R.length c4] 26))
    have M2 := hid ((M2.out.below hal (Nat.le_refl _)).more hal.size)
    have X3 := hid (X3.out.alloc (Obj.cells #[.slice A4 R.length c4] 26))
    have M3 := hid ((M3.out.below hal (Nat.le_refl _)).more hal.size)
    have X4 := hid (Bx.new w6 26 #[.slice A4 R.length c4])
    have M4 := hid ((HO4.out.below hal (Nat.le_refl _)).more hal.size)
    have HB := hid (bchain HB.out hal)
    clear hal
    clear hb6
    clear HO4
    have hC := specMultiText_any A1 n1 c1 p (w6.alloc (Obj.cells #[.slice A4 R.length c4] 26)) (by omega) HL1.out M1.out
    rw [HT.out] at hC
    replace hC := hid hC
    cases one with
    | true =>
      have HRT : Hid (st (rMultiText R) = S) := by
        have := multi_back HR.out
        show _ = _
        rw [rMultiText, this.1]; show st (mT R) = S; rw [this.2]; exact st_tl S
      go_wp2_with fail
      refine (hC.out).mono ?_
      rintro e w7 ⟨rfl, hb7⟩
      try clear l1 l2 l3 l4
      try clear x1 x2 x3 x4
      clear hC
      have X1 := hid (X1.out.below hb7 X1.out.lt)
      have M1 := hid ((M1.out.below hb7 (Nat.le_refl _)).more hb7.size)
      have X2 := hid (X2.out.below hb7 X2.out.lt)
      have M2 := hid ((M2.out.below hb7 (Nat.le_refl _)).more hb7.size)
      have X3 := hid (X3.out.below hb7 X3.out.lt)
      have M3 := hid ((M3.out.below hb7 (Nat.le_refl _)).more hb7.size)
      have X4 := hid (X4.out.below hb7 X4.out.lt)
      have M4 := hid ((M4.out.below hb7 (Nat.le_refl _)).more hb7.size)
      have HB := hid (bchain HB.out hb7)
      have l1 : w1.heap.size < w7.heap.size := X1.out.lt
      have x1 : w7.cell? ⟨w1.heap.size, 0, none⟩ = some (.slice A1 n1 c1) := bx_c0 X1.out
      have l2 : w3.heap.size < w7.heap.size := X2.out.lt
      have x2 : w7.cell? ⟨w3.heap.size, 0, none⟩ = some (.slice A2 p.length c2) := bx_c0 X2.out
      have l3 : w5.heap.size < w7.heap.size := X3.out.lt
      have x3 : w7.cell? ⟨w5.heap.size, 0, none⟩ = some (.slice A3 R.length c3) := bx_c0 X3.out
      have l4 : w6.heap.size < w7.heap.size := X4.out.lt
      have x4 : w7.cell? ⟨w6.heap.size, 0, none⟩ = some (.slice A4 R.length c4) := bx_c0 X4.out
      clear hb7
      have hC := specSameMulti_any A2 A1 p.length n1 c2 c1 p p w7 (by have := M1.out.len; omega) (by omega) HL1.out HL1.out M2.out M1.out
      rw [same_rows] at hC
      replace hC := hid hC
      go_wp2_with fail
      refine (hC.out).mono ?_
      rintro e w8 ⟨rfl, hb8⟩
      try clear l1 l2 l3 l4
      try clear x1 x2 x3 x4
      clear hC
      have X1 := hid (X1.out.below hb8 X1.out.lt)
      have M1 := hid ((M1.out.below hb8 (Nat.le_refl _)).more hb8.size)
      have X2 := hid (X2.out.below hb8 X2.out.lt)
      have M2 := hid ((M2.out.below hb8 (Nat.le_refl _)).more hb8.size)
      have X3 := hid (X3.out.below hb8 X3.out.lt)
      have M3 := hid ((M3.out.below hb8 (Nat.le_refl _)).more hb8.size)
      have X4 := hid (X4.out.below hb8 X4.out.lt)
      have M4 := hid ((M4.out.below hb8 (Nat.le_refl _)).more hb8.size)
      have HB := hid (bchain HB.out hb8)
      have l1 : w1.heap.size < w8.heap.size := X1.out.lt
      have x1 : w8.cell? ⟨w1.heap.size, 0, none⟩ = some (.slice A1 n1 c1) := bx_c0 X1.out
      have l2 : w3.heap.size < w8.heap.size := X2.out.lt
      have x2 : w8.cell? ⟨w3.heap.size, 0, none⟩ = some (.slice A2 p.length c2) := bx_c0 X2.out
      have l3 : w5.heap.size < w8.heap.size := X3.out.lt
      have x3 : w8.cell? ⟨w5.heap.size, 0, none⟩ = some (.slice A3 R.length c3) := bx_c0 X3.out
      have l4 : w6.heap.size < w8.heap.size := X4.out.lt
      have x4 : w8.cell? ⟨w6.heap.size, 0, none⟩ = some (.slice A4 R.length c4) := bx_c0 X4.out
      clear hb8
      have hC := specSameMulti_any A3 A4 R.length R.length c3 c4 R R w8 hRn hRn HRR.out HRR.out M3.out M4.out
      rw [same_rows] at hC
      replace hC := hid hC
      go_wp2_with fail
      refine (hC.out).mono ?_
      rintro e w9 ⟨rfl, hb9⟩
      try clear l1 l2 l3 l4
      try clear x1 x2 x3 x4
      clear hC
      have X1 := hid (X1.out.below hb9 X1.out.lt)
      have M1 := hid ((M1.out.below hb9 (Nat.le_refl _)).more hb9.size)
      have X2 := hid (X2.out.below hb9 X2.out.lt)
      have M2 := hid ((M2.out.below hb9 (Nat.le_refl _)).more hb9.size)
      have X3 := hid (X3.out.below hb9 X3.out.lt)
      have M3 := hid ((M3.out.below hb9 (Nat.le_refl _)).more hb9.size)
      have X4 := hid (X4.out.below hb9 X4.out.lt)
      have M4 := hid ((M4.out.below hb9 (Nat.le_refl _)).more hb9.size)
      have HB := hid (bchain HB.out hb9)
      have l1 : w1.heap.size < w9.heap.size := X1.out.lt
      have x1 : w9.cell? ⟨w1.heap.size, 0, none⟩ = some (.slice A1 n1 c1) := bx_c0 X1.out
      have l2 : w3.heap.size < w9.heap.size := X2.out.lt
      have x2 : w9.cell? ⟨w3.heap.size, 0, none⟩ = some (.slice A2 p.length c2) := bx_c0 X2.out
      have l3 : w5.heap.size < w9.heap.size := X3.out.lt
      have x3 : w9.cell? ⟨w5.heap.size, 0, none⟩ = some (.slice A3 R.length c3) := bx_c0 X3.out
      have l4 : w6.heap.size < w9.heap.size := X4.out.lt
      have x4 : w9.cell? ⟨w6.heap.size, 0, none⟩ = some (.slice A4 R.length c4) := bx_c0 X4.out
      clear hb9
      have hC := MultiText_any A3 R.length c3 R w9 hRn HRR.out M3.out
      rw [HRT.out] at hC
      replace hC := hid hC
      go_wp2_with fail
      refine (hC.out).mono ?_
      rintro e w10 ⟨rfl, hb10⟩
      try clear l1 l2 l3 l4
      try clear x1 x2 x3 x4
      clear hC
      have X1 := hid (X1.out.below hb10 X1.out.lt)
      have M1 := hid ((M1.out.below hb10 (Nat.le_refl _)).more hb10.size)
      have X2 := hid (X2.out.below hb10 X2.out.lt)
      have M2 := hid ((M2.out.below hb10 (Nat.le_refl _)).more hb10.size)
      have X3 := hid (X3.out.below hb10 X3.out.lt)
      have M3 := hid ((M3.out.below hb10 (Nat.le_refl _)).more hb10.size)
      have X4 := hid (X4.out.below hb10 X4.out.lt)
      have M4 := hid ((M4.out.below hb10 (Nat.le_refl _)).more hb10.size)
      have HB := hid (bchain HB.out hb10)
      have l1 : w1.heap.size < w10.heap.size := X1.out.lt
      have x1 : w10.cell? ⟨w1.heap.size, 0, none⟩ = some (.slice A1 n1 c1) := bx_c0 X1.out
      have l2 : w3.heap.size < w10.heap.size := X2.out.lt
      have x2 : w10.cell? ⟨w3.heap.size, 0, none⟩ = some (.slice A2 p.length c2) := bx_c0 X2.out
      have l3 : w5.heap.size < w10.heap.size := X3.out.lt
      have x3 : w10.cell? ⟨w5.heap.size, 0, none⟩ = some (.slice A3 R.length c3) := bx_c0 X3.out
      have l4 : w6.heap.size < w10.heap.size := X4.out.lt
      have x4 : w10.cell? ⟨w6.heap.size, 0, none⟩ = some (.slice A4 R.length c4) := bx_c0 X4.out
      clear hb10
      clear X1 M1 X2 M2 X3 M3 X4 M4
      try clear l1 l2 l3 l4
      try clear x1 x2 x3 x4
      go_wp2
      go_ret
      exact ⟨rfl, HB.out⟩
    | false =>
      go_wp2_with fail
      refine (hC.out).mono ?_
      rintro e w7 ⟨rfl, hb7⟩
      try clear l1 l2 l3 l4
      try clear x1 x2 x3 x4
      clear hC
      have X1 := hid (X1.out.below hb7 X1.out.lt)
      have M1 := hid ((M1.out.below hb7 (Nat.le_refl _)).more hb7.size)
      have X2 := hid (X2.out.below hb7 X2.out.lt)
      have M2 := hid ((M2.out.below hb7 (Nat.le_refl _)).more hb7.size)
      have X3 := hid (X3.out.below hb7 X3.out.lt)
      have M3 := hid ((M3.out.below hb7 (Nat.le_refl _)).more hb7.size)
      have X4 := hid (X4.out.below hb7 X4.out.lt)
      have M4 := hid ((M4.out.below hb7 (Nat.le_refl _)).more hb7.size)
      have HB := hid (bchain HB.out hb7)
      have l1 : w1.heap.size < w7.heap.size := X1.out.lt
      have x1 : w7.cell? ⟨w1.heap.size, 0, none⟩ = some (.slice A1 n1 c1) := bx_c0 X1.out
      have l2 : w3.heap.size < w7.heap.size := X2.out.lt
      have x2 : w7.cell? ⟨w3.heap.size, 0, none⟩ = some (.slice A2 p.length c2) := bx_c0 X2.out
      have l3 : w5.heap.size < w7.heap.size := X3.out.lt
      have x3 : w7.cell? ⟨w5.heap.size, 0, none⟩ = some (.slice A3 R.length c3) := bx_c0 X3.out
      have l4 : w6.heap.size < w7.heap.size := X4.out.lt
      have x4 : w7.cell? ⟨w6.heap.size, 0, none⟩ = some (.slice A4 R.length c4) := bx_c0 X4.out
      clear hb7
      have hC := specSameMulti_any A2 A1 p.length n1 c2 c1 p p w7 (by have := M1.out.len; omega) (by omega) HL1.out HL1.out M2.out M1.out
      rw [same_rows] at hC
      replace hC := hid hC
      go_wp2_with fail
      refine (hC.out).mono ?_
      rintro e w8 ⟨rfl, hb8⟩
      try clear l1 l2 l3 l4
      try clear x1 x2 x3 x4
      clear hC
      have X1 := hid (X1.out.below hb8 X1.out.lt)
      have M1 := hid ((M1.out.below hb8 (Nat.le_refl _)).more hb8.size)
      have X2 := hid (X2.out.below hb8 X2.out.lt)
      have M2 := hid ((M2.out.below hb8 (Nat.le_refl _)).more hb8.size)
      have X3 := hid (X3.out.below hb8 X3.out.lt)
      have M3 := hid ((M3.out.below hb8 (Nat.le_refl _)).more hb8.size)
      have X4 := hid (X4.out.below hb8 X4.out.lt)
      have M4 := hid ((M4.out.below hb8 (Nat.le_refl _)).more hb8.size)
      have HB := hid (bchain HB.out hb8)
      have l1 : w1.heap.size < w8.heap.size := X1.out.lt
      have x1 : w8.cell? ⟨w1.heap.size, 0, none⟩ = some (.slice A1 n1 c1) := bx_c0 X1.out
      have l2 : w3.heap.size < w8.heap.size := X2.out.lt
      have x2 : w8.cell? ⟨w3.heap.size, 0, none⟩ = some (.slice A2 p.length c2) := bx_c0 X2.out
      have l3 : w5.heap.size < w8.heap.size := X3.out.lt
      have x3 : w8.cell? ⟨w5.heap.size, 0, none⟩ = some (.slice A3 R.length c3) := bx_c0 X3.out
      have l4 : w6.heap.size < w8.heap.size := X4.out.lt
      have x4 : w8.cell? ⟨w6.heap.size, 0, none⟩ = some (.slice A4 R.length c4) := bx_c0 X4.out
      clear hb8
      have hC := specSameMulti_any A3 A4 R.length R.length c3 c4 R R w8 hRn hRn HRR.out HRR.out M3.out M4.out
      rw [same_rows] at hC
      replace hC := hid hC
      go_wp2_with fail
      refine (hC.out).mono ?_
      rintro e w9 ⟨rfl, hb9⟩
      try clear l1 l2 l3 l4
      try clear x1 x2 x3 x4
      clear hC
      have X1 := hid (X1.out.below hb9 X1.out.lt)
      have M1 := hid ((M1.out.below hb9 (Nat.le_refl _)).more hb9.size)
      have X2 := hid (X2.out.below hb9 X2.out.lt)
      have M2 := hid ((M2.out.below hb9 (Nat.le_refl _)).more hb9.size)
      have X3 := hid (X3.out.below hb9 X3.out.lt)
      have M3 := hid ((M3.out.below hb9 (Nat.le_refl _)).more hb9.size)
      have X4 := hid (X4.out.below hb9 X4.out.lt)
      have M4 := hid ((M4.out.below hb9 (Nat.le_refl _)).more hb9.size)
      have HB := hid (bchain HB.out hb9)
      have l1 : w1.heap.size < w9.heap.size := X1.out.lt
      have x1 : w9.cell? ⟨w1.heap.size, 0, none⟩ = some (.slice A1 n1 c1) := bx_c0 X1.out
      have l2 : w3.heap.size < w9.heap.size := X2.out.lt
      have x2 : w9.cell? ⟨w3.heap.size, 0, none⟩ = some (.slice A2 p.length c2) := bx_c0 X2.out
      have l3 : w5.heap.size < w9.heap.size := X3.out.lt
      have x3 : w9.cell? ⟨w5.heap.size, 0, none⟩ = some (.slice A3 R.length c3) := bx_c0 X3.out
      have l4 : w6.heap.size < w9.heap.size := X4.out.lt
      have x4 : w9.cell? ⟨w6.heap.size, 0, none⟩ = some (.slice A4 R.length c4) := bx_c0 X4.out
      clear hb9
      clear X1 M1 X2 M2 X3 M3 X4 M4
      try clear l1 l2 l3 l4
      try clear x1 x2 x3 x4
      go_wp2
      go_ret
      exact ⟨rfl, HB.out⟩
  | false =>
    have hT0 : t = ⟨#[]⟩ := by rw [← HT.out, rMultiText, hp]; rfl
    subst hT0
    have HBK : Hid (rReadMulti (tl (⟨#[]⟩ : ByteArray)) = (([] : List (List Int)), false)) := by show _ = _; exact rReadM_empty
    clear hp
    have hC := ReadMulti_any ⟨#[]⟩ w2 (by first | omega | decide)
    rw [HBK.out] at hC
    replace hC := hid hC
    go_wp2_with fail
    refine (hC.out).mono ?_
    rintro e w3 ⟨⟨A2, c2, rfl, ho2⟩, hb3⟩
    try clear l1
    try clear x1
    clear hC
    simp only [List.length_nil] at ho2
    have HO2 := hid ho2.read
    clear ho2
    have X1 := hid (X1.out.below hb3 X1.out.lt)
    have M1 := hid ((M1.out.below hb3 (Nat.le_refl _)).more hb3.size)
    have HB := hid (bchain HB.out hb3)
    have l1 : w1.heap.size < w3.heap.size := X1.out.lt
    have x1 : w3.cell? ⟨w1.heap.size, 0, none⟩ = some (.slice A1 n1 c1) := bx_c0 X1.out
    have hal : Below w3.heap.size w3 (w3.alloc (Obj.cells #[.slice A2 0 c2] 26)) := (by repeat' (first | exact Below.refl _ _ | (with_reducible assumption) | (with_reducible refine Below.alloc ?_ ?_ _) | (with_reducible refine Below.setCell ?_ ?_ _) | (with_reducible refine Below.drew ?_) | (with_reducible refine below_drewN ?_ _) | (refine Below.trans ?_ (Below.mono (by assumption) ?_)) | (with_reducible exact Nat.le_refl _) | (with_reducible assumption) | (exact Below.size (by assumption)) | omega | go_size | (simp at *; omega)))
    have X1 := hid (X1.out.alloc (Obj.cells #[.slice A2 0 c2] 26))
    have M1 := hid ((M1.out.below hal (Nat.le_refl _)).more hal.size)
    have X2 := hid (Bx.new w3 26 #[.slice A2 0 c2])
    have M2 := hid ((HO2.out.below hal (Nat.le_refl _)).more hal.size)
    have HB := hid (bchain HB.out hal)
    clear hal
    clear hb3
    clear HO2
    go_wp2_with fail
    refine (DrawReadMulti_any A n c xs _ (by omega) hX.out (hR.out _ HB.out)).mono ?_
    rintro e w4 ⟨⟨S, hS, rfl⟩, hb4⟩
    try clear l1 l2
    try clear x1 x2
    have X1 := hid (X1.out.below hb4 X1.out.lt)
    have M1 := hid ((M1.out.below hb4 (Nat.le_refl _)).more hb4.size)
    have X2 := hid (X2.out.below hb4 X2.out.lt)
    have M2 := hid ((M2.out.below hb4 (Nat.le_refl _)).more hb4.size)
    have HB := hid (bchain HB.out hb4)
    have l1 : w1.heap.size < w4.heap.size := X1.out.lt
    have x1 : w4.cell? ⟨w1.heap.size, 0, none⟩ = some (.slice A1 n1 c1) := bx_c0 X1.out
    have l2 : w3.heap.size < w4.heap.size := X2.out.lt
    have x2 : w4.cell? ⟨w3.heap.size, 0, none⟩ = some (.slice A2 0 c2) := bx_c0 X2.out
    clear hb4
    obtain ⟨⟨R, one⟩, hR2⟩ : ∃ x, rReadMulti (tl S) = x := ⟨_, rfl⟩
    have HRL := hid (rReadM_len hR2)
    have HR := hid hR2
    have HRR : Hid (∀ r ∈ R, r.length ≤ 1099511627776) := fun r hr => by have := HRL.out.2 r hr; omega
    have hRn : R.length ≤ 1099511627776 := by have := HRL.out.1; omega
    have hSS := toList_eqq S
    clear hR2
    have hC := ReadMulti_any S w4 (by omega)
    rw [HR.out] at hC
    replace hC := hid hC
    go_wp2_with fail
    refine (hC.out).mono ?_
    rintro e w5 ⟨⟨A3, c3, rfl, ho3⟩, hb5⟩
    try clear l1 l2
    try clear x1 x2
    clear hC
    simp only at ho3
    have HO3 := hid ho3.read
    clear ho3
    have X1 := hid (X1.out.below hb5 X1.out.lt)
    have M1 := hid ((M1.out.below hb5 (Nat.le_refl _)).more hb5.size)
    have X2 := hid (X2.out.below hb5 X2.out.lt)
    have M2 := hid ((M2.out.below hb5 (Nat.le_refl _)).more hb5.size)
    have HB := hid (bchain HB.out hb5)
    have l1 : w1.heap.size < w5.heap.size := X1.out.lt
    have x1 : w5.cell? ⟨w1.heap.size, 0, none⟩ = some (.slice A1 n1 c1) := bx_c0 X1.out
    have l2 : w3.heap.size < w5.heap.size := X2.out.lt
    have x2 : w5.cell? ⟨w3.heap.size, 0, none⟩ = some (.slice A2 0 c2) := bx_c0 X2.out
    have hal : Below w5.heap.size w5 (w5.alloc (Obj.cells #[.slice A3 R.length c3] 26)) := (by repeat' (first | exact Below.refl _ _ | (with_reducible assumption) | (with_reducible refine Below.alloc ?_ ?_ _) | (with_reducible refine Below.setCell ?_ ?_ _) | (with_reducible refine Below.drew ?_) | (with_reducible refine below_drewN ?_ _) | (refine Below.trans ?_ (Below.mono (by assumption) ?_)) | (with_reducible exact Nat.le_refl _) | (with_reducible assumption) | (exact Below.size (by assumption)) | omega | go_size | (simp at *; omega)))
    have X1 := hid (X1.out.alloc (Obj.cells #[.slice A3 R.length c3] 26))
    have M1 := hid ((M1.out.below hal (Nat.le_refl _)).more hal.size)
    have X2 := hid (X2.out.alloc (Obj.cells #[.slice A3 R.length c3] 26))
    have M2 := hid ((M2.out.below hal (Nat.le_refl _)).more hal.size)
    have X3 := hid (Bx.new w5 26 #[.slice A3 R.length c3])
    have M3 := hid ((HO3.out.below hal (Nat.le_refl _)).more hal.size)
    have HB := hid (bchain HB.out hal)
    clear hal
    clear hb5
    clear HO3
    have hC := specReadMulti_any S (w5.alloc (Obj.cells #[.slice A3 R.length c3] 26)) (by omega)
    rw [HR.out] at hC
    replace hC := hid hC
    go_wp2_with fail
    refine (hC.out).mono ?_
    rintro e w6 ⟨⟨A4, c4, rfl, ho4⟩, hb6⟩
    try clear l1 l2 l3
    try clear x1 x2 x3
    clear hC
    simp only at ho4
    have HO4 := hid ho4.read
    clear ho4
    have X1 := hid (X1.out.below hb6 X1.out.lt)
    have M1 := hid ((M1.out.below hb6 (Nat.le_refl _)).more hb6.size)
    have X2 := hid (X2.out.below hb6 X2.out.lt)
    have M2 := hid ((M2.out.below hb6 (Nat.le_refl _)).more hb6.size)
    have X3 := hid (X3.out.below hb6 X3.out.lt)
    have M3 := hid ((M3.out.below hb6 (Nat.le_refl _)).more hb6.size)
    have HB := hid (bchain HB.out hb6)
    have l1 : w1.heap.size < w6.heap.size := X1.out.lt
    have x1 : w6.cell? ⟨w1.heap.size, 0, none⟩ = some (.slice A1 n1 c1) := bx_c0 X1.out
    have l2 : w3.heap.size < w6.heap.size := X2.out.lt
    have x2 : w6.cell? ⟨w3.heap.size, 0, none⟩ = some (.slice A2 0 c2) := bx_c0 X2.out
    have l3 : w5.heap.size < w6.heap.size := X3.out.lt
    have x3 : w6.cell? ⟨w5.heap.size, 0, none⟩ = some (.slice A3 R.length c3) := bx_c0 X3.out
    have hal : Below w6.heap.size w6 (w6.alloc (Obj.cells #[.slice A4 R.length c4] 26)) := (by repeat' (first | exact Below.refl _ _ | (with_reducible assumption) | (with_reducible refine Below.alloc ?_ ?_ _) | (with_reducible refine Below.setCell ?_ ?_ _) | (with_reducible refine Below.drew ?_) | (with_reducible refine below_drewN ?_ _) | (refine Below.trans ?_ (Below.mono (by assumption) ?_)) | (with_reducible exact Nat.le_refl _) | (with_reducible assumption) | (exact Below.size (by assumption)) | omega | go_size | (simp at *; omega)))
    have X1 := hid (X1.out.alloc (Obj.cells #[.slice A4 R.length c4] 26))
    have M1 := hid ((M1.out.below hal (Nat.le_refl _)).more hal.size)
    have X2 := hid (X2.out.alloc (Obj.cells #[.slice A4 R.length c4] 26))
    have M2 := hid ((M2.out.below hal (Nat.le_refl _)).more hal.size)
    have X3 := hid (X3.out.alloc (Obj.cells #[.slice A4 R.length c4] 26))
    have M3 := hid ((M3.out.below hal (Nat.le_refl _)).more hal.size)
    have X4 := hid (Bx.new w6 26 #[.slice A4 R.length c4])
    have M4 := hid ((HO4.out.below hal (Nat.le_refl _)).more hal.size)
    have HB := hid (bchain HB.out hal)
    clear hal
    clear hb6
    clear HO4
    have hC := specMultiText_any A1 n1 c1 p (w6.alloc (Obj.cells #[.slice A4 R.length c4] 26)) (by omega) HL1.out M1.out
    rw [HT.out] at hC
    replace hC := hid hC
    cases one with
    | true =>
      have HRT : Hid (st (rMultiText R) = S) := by
        have := multi_back HR.out
        show _ = _
        rw [rMultiText, this.1]; show st (mT R) = S; rw [this.2]; exact st_tl S
      go_wp2_with fail
      refine (hC.out).mono ?_
      rintro e w7 ⟨rfl, hb7⟩
      try clear l1 l2 l3 l4
      try clear x1 x2 x3 x4
      clear hC
      have X1 := hid (X1.out.below hb7 X1.out.lt)
      have M1 := hid ((M1.out.below hb7 (Nat.le_refl _)).more hb7.size)
      have X2 := hid (X2.out.below hb7 X2.out.lt)
      have M2 := hid ((M2.out.below hb7 (Nat.le_refl _)).more hb7.size)
      have X3 := hid (X3.out.below hb7 X3.out.lt)
      have M3 := hid ((M3.out.below hb7 (Nat.le_refl _)).more hb7.size)
      have X4 := hid (X4.out.below hb7 X4.out.lt)
      have M4 := hid ((M4.out.below hb7 (Nat.le_refl _)).more hb7.size)
      have HB := hid (bchain HB.out hb7)
      have l1 : w1.heap.size < w7.heap.size := X1.out.lt
      have x1 : w7.cell? ⟨w1.heap.size, 0, none⟩ = some (.slice A1 n1 c1) := bx_c0 X1.out
      have l2 : w3.heap.size < w7.heap.size := X2.out.lt
      have x2 : w7.cell? ⟨w3.heap.size, 0, none⟩ = some (.slice A2 0 c2) := bx_c0 X2.out
      have l3 : w5.heap.size < w7.heap.size := X3.out.lt
      have x3 : w7.cell? ⟨w5.heap.size, 0, none⟩ = some (.slice A3 R.length c3) := bx_c0 X3.out
      have l4 : w6.heap.size < w7.heap.size := X4.out.lt
      have x4 : w7.cell? ⟨w6.heap.size, 0, none⟩ = some (.slice A4 R.length c4) := bx_c0 X4.out
      clear hb7
      have hC := specSameMulti_any A3 A4 R.length R.length c3 c4 R R w7 hRn hRn HRR.out HRR.out M3.out M4.out
      rw [same_rows] at hC
      replace hC := hid hC
      go_wp2_with fail
      refine (hC.out).mono ?_
      rintro e w8 ⟨rfl, hb8⟩
      try clear l1 l2 l3 l4
      try clear x1 x2 x3 x4
      clear hC
      have X1 := hid (X1.out.below hb8 X1.out.lt)
      have M1 := hid ((M1.out.below hb8 (Nat.le_refl _)).more hb8.size)
      have X2 := hid (X2.out.below hb8 X2.out.lt)
      have M2 := hid ((M2.out.below hb8 (Nat.le_refl _)).more hb8.size)
      have X3 := hid (X3.out.below hb8 X3.out.lt)
      have M3 := hid ((M3.out.below hb8 (Nat.le_refl _)).more hb8.size)
      have X4 := hid (X4.out.below hb8 X4.out.lt)
      have M4 := hid ((M4.out.below hb8 (Nat.le_refl _)).more hb8.size)
      have HB := hid (bchain HB.out hb8)
      have l1 : w1.heap.size < w8.heap.size := X1.out.lt
      have x1 : w8.cell? ⟨w1.heap.size, 0, none⟩ = some (.slice A1 n1 c1) := bx_c0 X1.out
      have l2 : w3.heap.size < w8.heap.size := X2.out.lt
      have x2 : w8.cell? ⟨w3.heap.size, 0, none⟩ = some (.slice A2 0 c2) := bx_c0 X2.out
      have l3 : w5.heap.size < w8.heap.size := X3.out.lt
      have x3 : w8.cell? ⟨w5.heap.size, 0, none⟩ = some (.slice A3 R.length c3) := bx_c0 X3.out
      have l4 : w6.heap.size < w8.heap.size := X4.out.lt
      have x4 : w8.cell? ⟨w6.heap.size, 0, none⟩ = some (.slice A4 R.length c4) := bx_c0 X4.out
      clear hb8
      have hC := MultiText_any A3 R.length c3 R w8 hRn HRR.out M3.out
      rw [HRT.out] at hC
      replace hC := hid hC
      go_wp2_with fail
      refine (hC.out).mono ?_
      rintro e w9 ⟨rfl, hb9⟩
      try clear l1 l2 l3 l4
      try clear x1 x2 x3 x4
      clear hC
      have X1 := hid (X1.out.below hb9 X1.out.lt)
      have M1 := hid ((M1.out.below hb9 (Nat.le_refl _)).more hb9.size)
      have X2 := hid (X2.out.below hb9 X2.out.lt)
      have M2 := hid ((M2.out.below hb9 (Nat.le_refl _)).more hb9.size)
      have X3 := hid (X3.out.below hb9 X3.out.lt)
      have M3 := hid ((M3.out.below hb9 (Nat.le_refl _)).more hb9.size)
      have X4 := hid (X4.out.below hb9 X4.out.lt)
      have M4 := hid ((M4.out.below hb9 (Nat.le_refl _)).more hb9.size)
      have HB := hid (bchain HB.out hb9)
      have l1 : w1.heap.size < w9.heap.size := X1.out.lt
      have x1 : w9.cell? ⟨w1.heap.size, 0, none⟩ = some (.slice A1 n1 c1) := bx_c0 X1.out
      have l2 : w3.heap.size < w9.heap.size := X2.out.lt
      have x2 : w9.cell? ⟨w3.heap.size, 0, none⟩ = some (.slice A2 0 c2) := bx_c0 X2.out
      have l3 : w5.heap.size < w9.heap.size := X3.out.lt
      have x3 : w9.cell? ⟨w5.heap.size, 0, none⟩ = some (.slice A3 R.length c3) := bx_c0 X3.out
      have l4 : w6.heap.size < w9.heap.size := X4.out.lt
      have x4 : w9.cell? ⟨w6.heap.size, 0, none⟩ = some (.slice A4 R.length c4) := bx_c0 X4.out
      clear hb9
      clear X1 M1 X2 M2 X3 M3 X4 M4
      try clear l1 l2 l3 l4
      try clear x1 x2 x3 x4
      go_wp2
      go_ret
      exact ⟨rfl, HB.out⟩
    | false =>
      go_wp2_with fail
      refine (hC.out).mono ?_
      rintro e w7 ⟨rfl, hb7⟩
      try clear l1 l2 l3 l4
      try clear x1 x2 x3 x4
      clear hC
      have X1 := hid (X1.out.below hb7 X1.out.lt)
      have M1 := hid ((M1.out.below hb7 (Nat.le_refl _)).more hb7.size)
      have X2 := hid (X2.out.below hb7 X2.out.lt)
      have M2 := hid ((M2.out.below hb7 (Nat.le_refl _)).more hb7.size)
      have X3 := hid (X3.out.below hb7 X3.out.lt)
      have M3 := hid ((M3.out.below hb7 (Nat.le_refl _)).more hb7.size)
      have X4 := hid (X4.out.below hb7 X4.out.lt)
      have M4 := hid ((M4.out.below hb7 (Nat.le_refl _)).more hb7.size)
      have HB := hid (bchain HB.out hb7)
      have l1 : w1.heap.size < w7.heap.size := X1.out.lt
      have x1 : w7.cell? ⟨w1.heap.size, 0, none⟩ = some (.slice A1 n1 c1) := bx_c0 X1.out
      have l2 : w3.heap.size < w7.heap.size := X2.out.lt
      have x2 : w7.cell? ⟨w3.heap.size, 0, none⟩ = some (.slice A2 0 c2) := bx_c0 X2.out
      have l3 : w5.heap.size < w7.heap.size := X3.out.lt
      have x3 : w7.cell? ⟨w5.heap.size, 0, none⟩ = some (.slice A3 R.length c3) := bx_c0 X3.out
      have l4 : w6.heap.size < w7.heap.size := X4.out.lt
      have x4 : w7.cell? ⟨w6.heap.size, 0, none⟩ = some (.slice A4 R.length c4) := bx_c0 X4.out
      clear hb7
      have hC := specSameMulti_any A3 A4 R.length R.length c3 c4 R R w7 hRn hRn HRR.out HRR.out M3.out M4.out
      rw [same_rows] at hC
      replace hC := hid hC
      go_wp2_with fail
      refine (hC.out).mono ?_
      rintro e w8 ⟨rfl, hb8⟩
      try clear l1 l2 l3 l4
      try clear x1 x2 x3 x4
      clear hC
      have X1 := hid (X1.out.below hb8 X1.out.lt)
      have M1 := hid ((M1.out.below hb8 (Nat.le_refl _)).more hb8.size)
      have X2 := hid (X2.out.below hb8 X2.out.lt)
      have M2 := hid ((M2.out.below hb8 (Nat.le_refl _)).more hb8.size)
      have X3 := hid (X3.out.below hb8 X3.out.lt)
      have M3 := hid ((M3.out.below hb8 (Nat.le_refl _)).more hb8.size)
      have X4 := hid (X4.out.below hb8 X4.out.lt)
      have M4 := hid ((M4.out.below hb8 (Nat.le_refl _)).more hb8.size)
      have HB := hid (bchain HB.out hb8)
      have l1 : w1.heap.size < w8.heap.size := X1.out.lt
      have x1 : w8.cell? ⟨w1.heap.size, 0, none⟩ = some (.slice A1 n1 c1) := bx_c0 X1.out
      have l2 : w3.heap.size < w8.heap.size := X2.out.lt
      have x2 : w8.cell? ⟨w3.heap.size, 0, none⟩ = some (.slice A2 0 c2) := bx_c0 X2.out
      have l3 : w5.heap.size < w8.heap.size := X3.out.lt
      have x3 : w8.cell? ⟨w5.heap.size, 0, none⟩ = some (.slice A3 R.length c3) := bx_c0 X3.out
      have l4 : w6.heap.size < w8.heap.size := X4.out.lt
      have x4 : w8.cell? ⟨w6.heap.size, 0, none⟩ = some (.slice A4 R.length c4) := bx_c0 X4.out
      clear hb8
      clear X1 M1 X2 M2 X3 M3 X4 M4
      try clear l1 l2 l3 l4
      try clear x1 x2 x3 x4
      go_wp2
      go_ret
      exact ⟨rfl, HB.out⟩
set_option maxRecDepth 100000 in
theorem fnMultiTexts_walk (w : World) (A : Option Addr) (n c : Nat) (xs : List Int) (hK : Came .u8 w A n c xs) :
    Calls Try.prog 3 #[.slice A n c] w fun e w' => e = .returned (.bool true) ∧ Below w.heap.size w w' := by
  by_cases h : n ≤ 4096
  · exact fnMultiTexts_main w A n c xs hK h
  · have hq : decide (4096 < n) = true := by simp; omega
    have h1 := hK.2.1; have h2 := hK.2.2.1
    unfold maxLen at h2
    have hL := f6big_any A n c w (by omega)
    rw [hq] at hL
    have hL := hid hL
    clear hK h hq
    go_enter Try.func3, Try.ntmps3
    go_wp2_with (go_at_call 9; refine (hL.out).mono ?_; rintro e w' ⟨rfl, rfl⟩)
    go_ret
    exact ⟨rfl, (by repeat' (first | exact Below.refl _ _ | (with_reducible assumption) | (with_reducible refine Below.alloc ?_ ?_ _) | (with_reducible refine Below.setCell ?_ ?_ _) | (with_reducible refine Below.drew ?_) | (with_reducible refine below_drewN ?_ _) | (refine Below.trans ?_ (Below.mono (by assumption) ?_)) | (with_reducible exact Nat.le_refl _) | (with_reducible assumption) | (exact Below.size (by assumption)) | omega | go_size | (simp at *; omega)))⟩
end Go.Proofs.Ytlbhfjbbkkkldaa
