/- The contracts of DrawMultiText, DrawMultiLandings, DrawReadMulti. -/
import Derived.Test.YtlbhfjbbkkkldaaMg
import Derived.Test.YtlbhfjbbkkkldaaMw
import Derived.Test.YtlbhfjbbkkkldaaSp
import Derived.Test.YtlbhfjbbkkkldaaNk
namespace Go.Proofs.Ytlbhfjbbkkkldaa
open Go.RowKit
set_option linter.unusedVariables false

set_option maxHeartbeats 1000000 in
theorem DrawMultiText_any (A : Option Addr) (n c : Nat) (xs : List Int) (w : World) (hn : n ≤ 1099511627776) (hx : ∀ x ∈ xs, 0 ≤ x ∧ x ≤ 255) (hr : Rd w w.heap.size 1 A n (xs.map (Value.int .u8))) :
    Calls Try.prog 10 #[.slice A n c] w fun e w' => MbRes w.heap.size w' e ∧ Below w.heap.size w w' := by
  have hX := Bx.new w 26 #[.slice none 0 0]
  have hB0 : Below w.heap.size w (w.alloc (Obj.cells #[.slice none 0 0] 26)) := (by repeat' (first | exact Below.refl _ _ | (with_reducible assumption) | (with_reducible refine Below.alloc ?_ ?_ _) | (with_reducible refine Below.setCell ?_ ?_ _) | (with_reducible refine Below.drew ?_) | (with_reducible refine below_drewN ?_ _) | (refine Below.trans ?_ (Below.mono (by assumption) ?_)) | (with_reducible exact Nat.le_refl _) | (with_reducible assumption) | (exact Below.size (by assumption)) | omega | go_size | (simp at *; omega)))
  have hzz : (w.alloc (Obj.cells #[.slice none 0 0] 26)).heap.size = w.heap.size + 1 := by simp
  have h0 := l00From_any A n c xs (w.alloc (Obj.cells #[.slice none 0 0] 26)) hn hx ((hr.below hB0 (Nat.le_refl _)).more hB0.size)
  have HXL := hid hX.lt
  rw [hzz] at h0 HXL
  have h0 := hid h0
  have HX := hid hX
  have HB := hid hB0
  have HZ := hid hzz
  clear hx hr hX hB0 hzz HZ
  go_enter Try.func10, Try.ntmps10
  go_wp2_with fail
  refine h0.out.mono ?_
  rintro e w1 ⟨rfl, hs1, hb1⟩
  have z1 := hb1.size
  have l1 := hs1.lt
  have hX1 := hid (HX.out.below hb1 (Nat.lt_succ_self _))
  have hB1 : Below w.heap.size w w1 := HB.out.trans (hb1.mono (Nat.le_succ _))
  have hl0 : w.heap.size < w1.heap.size := hX1.out.lt
  have hS := hid hs1
  have hne : w.heap.size ≠ w.heap.size + 1 := by omega
  have hge : w.heap.size ≤ w.heap.size + 1 := by omega
  have HNE := hid hne
  have HGE := hid hge
  clear h0 HX HB hs1 hb1 z1 l1 hne hge HXL
  go_wp2_with fail
  refine (l04Bent_src _ A n c 0 xs w1 (by omega) hS.out).mono ?_
  rintro e w2 ⟨⟨A2, n2, c2, rfl, rows, hm, hn2, hr2⟩, hs2, hg2⟩
  have hX2 := hX1.out.grown hg2 (fun e => HNE.out (by injection e))
  have hB2 : Below w.heap.size w w2 := hB1.grown hg2 hB1.size (fun g h => by injection h with h; rw [← h]; exact HGE.out)
  have e0 := bx_c0 hX2
  have e1 := hX2.frozen 0
  have HM := hid ((hm.setCell (p := ⟨w.heap.size, 0, none⟩) (.inl hl0) (.slice A2 n2 c2)).more (Nat.le_of_lt hl0) (show w2.heap.size ≤ (w2.setCell ⟨w.heap.size, 0, none⟩ (.slice A2 n2 c2)).heap.size by simp))
  have HB2 := hid hB2
  have HR := hid hr2
  clear hg2 hs2 hX2 hB2 hm hS hX1 hB1 HNE HGE hr2
  go_wp2
  refine bodyPost_ret (v := .agg #[.slice A2 n2 c2]) ?_ rfl ?_
  · simp (maxDischargeDepth := 8) [results, Try.results10, go_sem, *]
  exact ⟨⟨A2, n2, c2, rfl, rows, HM.out, hn2, HR.out⟩, HB2.out.setCell (p := ⟨w.heap.size, 0, none⟩) (by show w.heap.size ≤ w.heap.size; exact Nat.le_refl _) _⟩
set_option maxHeartbeats 1000000 in
theorem DrawMultiLandings_any (A : Option Addr) (n c : Nat) (xs : List Int) (w : World) (hn : n ≤ 1099511627776) (hx : ∀ x ∈ xs, 0 ≤ x ∧ x ≤ 255) (hr : Rd w w.heap.size 1 A n (xs.map (Value.int .u8))) :
    Calls Try.prog 42 #[.slice A n c] w fun e w' => MbRes w.heap.size w' e ∧ Below w.heap.size w w' := by
  have hX := Bx.new w 26 #[.slice none 0 0]
  have hB0 : Below w.heap.size w (w.alloc (Obj.cells #[.slice none 0 0] 26)) := (by repeat' (first | exact Below.refl _ _ | (with_reducible assumption) | (with_reducible refine Below.alloc ?_ ?_ _) | (with_reducible refine Below.setCell ?_ ?_ _) | (with_reducible refine Below.drew ?_) | (with_reducible refine below_drewN ?_ _) | (refine Below.trans ?_ (Below.mono (by assumption) ?_)) | (with_reducible exact Nat.le_refl _) | (with_reducible assumption) | (exact Below.size (by assumption)) | omega | go_size | (simp at *; omega)))
  have hzz : (w.alloc (Obj.cells #[.slice none 0 0] 26)).heap.size = w.heap.size + 1 := by simp
  have h0 := l00From_any A n c xs (w.alloc (Obj.cells #[.slice none 0 0] 26)) hn hx ((hr.below hB0 (Nat.le_refl _)).more hB0.size)
  have HXL := hid hX.lt
  rw [hzz] at h0 HXL
  have h0 := hid h0
  have HX := hid hX
  have HB := hid hB0
  have HZ := hid hzz
  clear hx hr hX hB0 hzz HZ
  go_enter Try.func42, Try.ntmps42
  go_wp2_with fail
  refine h0.out.mono ?_
  rintro e w1 ⟨rfl, hs1, hb1⟩
  have z1 := hb1.size
  have l1 := hs1.lt
  have hX1 := hid (HX.out.below hb1 (Nat.lt_succ_self _))
  have hB1 : Below w.heap.size w w1 := HB.out.trans (hb1.mono (Nat.le_succ _))
  have hl0 : w.heap.size < w1.heap.size := hX1.out.lt
  have hS := hid hs1
  have hne : w.heap.size ≠ w.heap.size + 1 := by omega
  have hge : w.heap.size ≤ w.heap.size + 1 := by omega
  have HNE := hid hne
  have HGE := hid hge
  clear h0 HX HB hs1 hb1 z1 l1 hne hge HXL
  go_wp2_with fail
  refine (l04Bent_src _ A n c 0 xs w1 (by omega) hS.out).mono ?_
  rintro e w2 ⟨⟨A2, n2, c2, rfl, rows, hm, hn2, hr2⟩, hs2, hg2⟩
  have hX2 := hX1.out.grown hg2 (fun e => HNE.out (by injection e))
  have hB2 : Below w.heap.size w w2 := hB1.grown hg2 hB1.size (fun g h => by injection h with h; rw [← h]; exact HGE.out)
  have e0 := bx_c0 hX2
  have e1 := hX2.frozen 0
  have HM := hid ((hm.setCell (p := ⟨w.heap.size, 0, none⟩) (.inl hl0) (.slice A2 n2 c2)).more (Nat.le_of_lt hl0) (show w2.heap.size ≤ (w2.setCell ⟨w.heap.size, 0, none⟩ (.slice A2 n2 c2)).heap.size by simp))
  have HB2 := hid hB2
  have HR := hid hr2
  clear hg2 hs2 hX2 hB2 hm hS hX1 hB1 HNE HGE hr2
  go_wp2
  refine bodyPost_ret (v := .agg #[.slice A2 n2 c2]) ?_ rfl ?_
  · simp (maxDischargeDepth := 8) [results, Try.results42, go_sem, *]
  exact ⟨⟨A2, n2, c2, rfl, rows, HM.out, hn2, HR.out⟩, HB2.out.setCell (p := ⟨w.heap.size, 0, none⟩) (by show w.heap.size ≤ w.heap.size; exact Nat.le_refl _) _⟩
theorem ten_any (w : World) (b : Nat) (hb : b = w.heap.size) (t : TypeId) : ∀ i, i < 10 → ∃ y : ByteArray, y.size ≤ 12 ∧ (w.alloc (Obj.cells #[.string ⟨#[]⟩, .string ⟨#[91]⟩, .string ⟨#[91, 52, 51]⟩, .string ⟨#[91, 52, 93]⟩, .string ⟨#[91, 93]⟩, .string ⟨#[52, 93]⟩, .string ⟨#[91, 52, 48, 93, 50]⟩, .string ⟨#[91, 51, 52, 93, 50, 51]⟩, .string ⟨#[103]⟩, .string ⟨#[91, 52, 51, 93, 50, 51]⟩] t)).cell? ⟨b, 0 + i, none⟩ = some (.string y) := by
  intro i hi
  subst hb
  rw [World.cell?_alloc_at _ _ _ _ rfl]
  match i, hi with
  | 0, _ => refine ⟨_, ?_, rfl⟩; decide
  | 1, _ => refine ⟨_, ?_, rfl⟩; decide
  | 2, _ => refine ⟨_, ?_, rfl⟩; decide
  | 3, _ => refine ⟨_, ?_, rfl⟩; decide
  | 4, _ => refine ⟨_, ?_, rfl⟩; decide
  | 5, _ => refine ⟨_, ?_, rfl⟩; decide
  | 6, _ => refine ⟨_, ?_, rfl⟩; decide
  | 7, _ => refine ⟨_, ?_, rfl⟩; decide
  | 8, _ => refine ⟨_, ?_, rfl⟩; decide
  | 9, _ => refine ⟨_, ?_, rfl⟩; decide
theorem msSh_tlen {rows : List (List Int)} (h : msSh rows = true) : (mT rows).length ≤ 72 := by
  have h1 := msSh_iff.1 h
  have := mT_len rows (fun r hr => (mstOk_iff.1 (h1.2 r hr)).1.2)
  omega
set_option maxHeartbeats 1000000 in
theorem DrawReadMulti_any (A : Option Addr) (n c : Nat) (xs : List Int) (w : World) (hn : n ≤ 1099511627776) (hx : ∀ x ∈ xs, 0 ≤ x ∧ x ≤ 255) (hr : Rd w w.heap.size 1 A n (xs.map (Value.int .u8))) :
    Calls Try.prog 13 #[.slice A n c] w fun e w' => StrRes e ∧ Below w.heap.size w w' := by
  have h0 := hid (l00From_any A n c xs w hn hx hr)
  clear hx hr
  go_enter Try.func13, Try.ntmps13
  go_wp2_with fail
  refine h0.out.mono ?_
  rintro e w1 ⟨rfl, hs1, hb1⟩
  have z1 := hb1.size
  have l1 := hs1.lt
  clear h0
  go_wp2_with fail
  refine (l04Bent_src _ A n c 0 xs w1 (by omega) hs1).mono ?_
  rintro e w2 ⟨⟨A2, n2, c2, rfl, rows, hm, hn2, hr2⟩, hs2, hg2⟩
  have hB2 : Below w.heap.size w w2 := hb1.grown hg2 z1 (fun g h => by simp at h; omega)
  have z2 := hg2.size
  have hbx : Below w2.heap.size w2 (w2.alloc (Obj.cells #[.slice A2 n2 c2] 26)) := (by repeat' (first | exact Below.refl _ _ | (with_reducible assumption) | (with_reducible refine Below.alloc ?_ ?_ _) | (with_reducible refine Below.setCell ?_ ?_ _) | (with_reducible refine Below.drew ?_) | (with_reducible refine below_drewN ?_ _) | (refine Below.trans ?_ (Below.mono (by assumption) ?_)) | (with_reducible exact Nat.le_refl _) | (with_reducible assumption) | (exact Below.size (by assumption)) | omega | go_size | (simp at *; omega)))
  have hX := Bx.new w2 26 #[.slice A2 n2 c2]
  have hm' := ((hm.rd).below hbx (Nat.le_refl _)).more hbx.size
  have hL := l04Ok_any w2.heap.size A2 n2 c2 rows (w2.alloc (Obj.cells #[.slice A2 n2 c2] 26)) (by omega) (fun r hr => by have := hr2 r hr; omega) hX hm'
  have hBx := bchain hB2 hbx
  have hsx := hs2.below hbx (by omega)
  have HM := hid hm'
  have HX := hid hX
  have HBX := hid hBx
  have HSX := hid hsx
  have hl2 : w.heap.size < (w2.alloc (Obj.cells #[.slice A2 n2 c2] 26)).heap.size := by have := hbx.size; omega
  have HL2 := hid hl2
  clear hg2 hs1 hb1 hm hm' hX hBx hsx hbx hs2 hB2 hl2
  cases hok : mOk rows with
  | true =>
    rw [hok] at hL
    have hL := hid hL
    have hsh := (mOk_iff.1 hok).1
    have HSH := hid hsh
    clear hok hsh
    go_wp2_with fail
    refine hL.out.mono ?_
    rintro e w3 ⟨rfl, hb3⟩
    have hB3 := bchain HBX.out hb3
    have hs3 := HSX.out.below hb3 (HL2.out)
    have hX3 := HX.out.below hb3 HX.out.lt
    have hm3 := (HM.out.below hb3 (Nat.le_refl _)).more hb3.size
    have z3 := hb3.size
    have hT := l04Text_at w2.heap.size 0 A2 n2 c2 rows w3 HSH.out hX3.bo hm3
    have hTs : (st (mT rows)).size ≤ 72 := by rw [st_size]; exact msSh_tlen HSH.out
    obtain ⟨T, hTe⟩ : ∃ T, st (mT rows) = T := ⟨_, rfl⟩
    rw [hTe] at hT hTs
    have hT := hid hT
    have hlw := Nat.lt_of_lt_of_le HL2.out z3
    clear hTe hL hb3 hX3 hm3 HX HM HBX HSX z3 HL2
    go_wp2_with fail
    refine hT.out.mono ?_
    rintro e w4 ⟨rfl, rfl⟩
    clear hT
    go_wp2_with fail
    refine (one_src _ A n c (0 + 400) xs 3 w3 (by omega) (by omega) hs3).mono ?_
    rintro e w5 ⟨⟨b, rfl⟩, hs5, hg5⟩
    have hB5 : Below w.heap.size w w5 := hB3.grown hg5 (by omega) (fun g h => by simp at h; omega)
    have z5 := hg5.size
    clear hg5 hs3 hB3
    cases b
    · go_wp2
      go_ret
      exact ⟨⟨T, by omega, rfl⟩, hB5⟩
    · go_wp2_with fail
      refine (l01Spoil_src _ A n c (0 + 400 + 2) xs T w5 (by omega) (by omega) hs5).mono ?_
      rintro e w6 ⟨⟨S, hS, rfl⟩, hs6, hg6⟩
      have hB6 : Below w.heap.size w w6 := hB5.grown hg6 (by omega) (fun g h => by simp at h; omega)
      go_wp2
      go_ret
      exact ⟨⟨S, hS, rfl⟩, hB6⟩
  | false =>
    rw [hok] at hL
    have hL := hid hL
    clear hok
    go_wp2_with fail
    refine hL.out.mono ?_
    rintro e w3 ⟨rfl, hb3⟩
    have hB3 := bchain HBX.out hb3
    have hs3 := HSX.out.below hb3 (HL2.out)
    have z3 := hb3.size
    have hlw := Nat.lt_of_lt_of_le HL2.out z3
    clear hL hb3 HX HM HBX HSX z3 HL2
    go_wp2_with fail
    refine (text_src _ A n c (0 + 400) xs w3.heap.size 0 10 10 _ (by omega) (by omega) (by simp) (by omega) (by omega) (ten_any w3 _ rfl _) (hs3.below (B := w3.heap.size) (by repeat' (first | exact Below.refl _ _ | (with_reducible assumption) | (with_reducible refine Below.alloc ?_ ?_ _) | (with_reducible refine Below.setCell ?_ ?_ _) | (with_reducible refine Below.drew ?_) | (with_reducible refine below_drewN ?_ _) | (refine Below.trans ?_ (Below.mono (by assumption) ?_)) | (with_reducible exact Nat.le_refl _) | (with_reducible assumption) | (exact Below.size (by assumption)) | omega | go_size | (simp at *; omega))) (by omega))).mono ?_
    rintro e w6 ⟨⟨y, hy, rfl⟩, hs6, hg6⟩
    have hb5 : Below w.heap.size w (w3.alloc (Obj.cells #[.string ⟨#[]⟩, .string ⟨#[91]⟩, .string ⟨#[91, 52, 51]⟩, .string ⟨#[91, 52, 93]⟩, .string ⟨#[91, 93]⟩, .string ⟨#[52, 93]⟩, .string ⟨#[91, 52, 48, 93, 50]⟩, .string ⟨#[91, 51, 52, 93, 50, 51]⟩, .string ⟨#[103]⟩, .string ⟨#[91, 52, 51, 93, 50, 51]⟩] 9)) := hB3.alloc hB3.size _
    have hB6 : Below w.heap.size w w6 := hb5.grown hg6 hb5.size (fun g h => by simp at h; omega)
    go_wp2
    go_ret
    exact ⟨⟨y, by omega, rfl⟩, hB6⟩
end Go.Proofs.Ytlbhfjbbkkkldaa
