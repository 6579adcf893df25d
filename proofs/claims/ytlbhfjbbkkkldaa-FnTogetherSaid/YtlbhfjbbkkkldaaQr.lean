/- The contracts of DrawPassingText, DrawPassesOf, DrawReadPassing. -/
import Derived.Test.YtlbhfjbbkkkldaaQo
import Derived.Test.YtlbhfjbbkkkldaaSp
namespace Go.Proofs.Ytlbhfjbbkkkldaa
open Go.RowKit
set_option linter.unusedVariables false

set_option maxHeartbeats 1000000 in
theorem DrawPassingText_any (A : Option Addr) (n c : Nat) (xs : List Int) (w : World) (hn : n ≤ 1099511627776) (hx : ∀ x ∈ xs, 0 ≤ x ∧ x ≤ 255) (hr : Rd w w.heap.size 1 A n (xs.map (Value.int .u8))) :
    Calls Try.prog 17 #[.slice A n c] w fun e w' => PeRow w.heap.size w' e ∧ Below w.heap.size w w' := by
  have hX := Bx.new w 35 #[.slice none 0 0, .slice none 0 0]
  have hB0 : Below w.heap.size w (w.alloc (Obj.cells #[.slice none 0 0, .slice none 0 0] 35)) := (by repeat' (first | exact Below.refl _ _ | (with_reducible assumption) | (with_reducible refine Below.alloc ?_ ?_ _) | (with_reducible refine Below.setCell ?_ ?_ _) | (with_reducible refine Below.drew ?_) | (with_reducible refine below_drewN ?_ _) | (refine Below.trans ?_ (Below.mono (by assumption) ?_)) | (with_reducible exact Nat.le_refl _) | (with_reducible assumption) | (exact Below.size (by assumption)) | omega | go_size | (simp at *; omega)))
  have hzz : (w.alloc (Obj.cells #[.slice none 0 0, .slice none 0 0] 35)).heap.size = w.heap.size + 1 := by simp
  have h0 := l00From_any A n c xs (w.alloc (Obj.cells #[.slice none 0 0, .slice none 0 0] 35)) hn hx ((hr.below hB0 (Nat.le_refl _)).more hB0.size)
  rw [hzz] at h0
  have h0 := hid h0
  have HX := hid hX
  have HB := hid hB0
  clear hx hr hX hB0 hzz
  go_enter Try.func17, Try.ntmps17
  go_wp2_with fail
  refine h0.out.mono ?_
  rintro e w1 ⟨rfl, hs1, hb1⟩
  have z1 := hb1.size
  have l1 := hs1.lt
  have hX1 := hid (HX.out.below hb1 (Nat.lt_succ_self _))
  have hB1 : Below w.heap.size w w1 := HB.out.trans (hb1.mono (Nat.le_succ _))
  have hl0 : w.heap.size < w1.heap.size := hX1.out.lt
  have hS := hid hs1
  have hne : w.heap.size ≠ w.heap.size + 1 := by omega
  have hge : w.heap.size ≤ w.heap.size + 1 := by omega
  have HNE := hid hne
  have HGE := hid hge
  clear h0 HX HB hs1 hb1 z1 l1 hne hge
  go_wp2_with fail
  refine (l06Bent_src _ A n c 0 xs w1 (by omega) hS.out).mono ?_
  rintro e w2 ⟨⟨A2, n2, c2, B2, m2, d2, rfl, p, hm, hm', hn2, hn3⟩, hs2, hg2⟩
  have hX2 := hX1.out.grown hg2 (fun e => HNE.out (by injection e))
  have hB2 : Below w.heap.size w w2 := hB1.grown hg2 hB1.size (fun g h => by injection h with h; rw [← h]; exact HGE.out)
  have e0 := bx_p0 hX2
  have e00 := bx_p1 hX2
  have e1 := hX2.frozen 0
  have e11 := hX2.frozen 1
  have hsz : w2.heap.size ≤ ((w2.setCell ⟨w.heap.size, 0, none⟩ (.slice A2 n2 c2)).setCell ⟨w.heap.size, 1, none⟩ (.slice B2 m2 d2)).heap.size := by simp
  have HM := hid (((hm.setCell (p := ⟨w.heap.size, 0, none⟩) hl0 (.slice A2 n2 c2)).setCell (p := ⟨w.heap.size, 1, none⟩) hl0 (.slice B2 m2 d2)).more (Nat.le_of_lt hl0) hsz)
  have HM' := hid (((hm'.setCell (p := ⟨w.heap.size, 0, none⟩) hl0 (.slice A2 n2 c2)).setCell (p := ⟨w.heap.size, 1, none⟩) hl0 (.slice B2 m2 d2)).more (Nat.le_of_lt hl0) hsz)
  have HB2 := hid hB2
  clear hg2 hs2 hX2 hB2 hm hm' hS hX1 hB1 HNE HGE hsz
  go_wp2
  refine bodyPost_ret (v := .agg #[.slice A2 n2 c2, .slice B2 m2 d2]) ?_ rfl ?_
  · simp (maxDischargeDepth := 8) [results, Try.results17, go_sem, *]
  exact ⟨⟨A2, n2, c2, B2, m2, d2, rfl, p, HM.out, HM'.out, hn2, hn3⟩, (HB2.out.setCell (p := ⟨w.heap.size, 0, none⟩) (by show w.heap.size ≤ w.heap.size; exact Nat.le_refl _) _).setCell (p := ⟨w.heap.size, 1, none⟩) (by show w.heap.size ≤ w.heap.size; exact Nat.le_refl _) _⟩
set_option maxHeartbeats 1000000 in
theorem DrawPassesOf_any (A : Option Addr) (n c : Nat) (xs : List Int) (w : World) (hn : n ≤ 1099511627776) (hx : ∀ x ∈ xs, 0 ≤ x ∧ x ≤ 255) (hr : Rd w w.heap.size 1 A n (xs.map (Value.int .u8))) :
    Calls Try.prog 32 #[.slice A n c] w fun e w' => PeRow w.heap.size w' e ∧ Below w.heap.size w w' := by
  have hX := Bx.new w 35 #[.slice none 0 0, .slice none 0 0]
  have hB0 : Below w.heap.size w (w.alloc (Obj.cells #[.slice none 0 0, .slice none 0 0] 35)) := (by repeat' (first | exact Below.refl _ _ | (with_reducible assumption) | (with_reducible refine Below.alloc ?_ ?_ _) | (with_reducible refine Below.setCell ?_ ?_ _) | (with_reducible refine Below.drew ?_) | (with_reducible refine below_drewN ?_ _) | (refine Below.trans ?_ (Below.mono (by assumption) ?_)) | (with_reducible exact Nat.le_refl _) | (with_reducible assumption) | (exact Below.size (by assumption)) | omega | go_size | (simp at *; omega)))
  have hzz : (w.alloc (Obj.cells #[.slice none 0 0, .slice none 0 0] 35)).heap.size = w.heap.size + 1 := by simp
  have h0 := l00From_any A n c xs (w.alloc (Obj.cells #[.slice none 0 0, .slice none 0 0] 35)) hn hx ((hr.below hB0 (Nat.le_refl _)).more hB0.size)
  rw [hzz] at h0
  have h0 := hid h0
  have HX := hid hX
  have HB := hid hB0
  clear hx hr hX hB0 hzz
  go_enter Try.func32, Try.ntmps32
  go_wp2_with fail
  refine h0.out.mono ?_
  rintro e w1 ⟨rfl, hs1, hb1⟩
  have z1 := hb1.size
  have l1 := hs1.lt
  have hX1 := hid (HX.out.below hb1 (Nat.lt_succ_self _))
  have hB1 : Below w.heap.size w w1 := HB.out.trans (hb1.mono (Nat.le_succ _))
  have hl0 : w.heap.size < w1.heap.size := hX1.out.lt
  have hS := hid hs1
  have hne : w.heap.size ≠ w.heap.size + 1 := by omega
  have hge : w.heap.size ≤ w.heap.size + 1 := by omega
  have HNE := hid hne
  have HGE := hid hge
  clear h0 HX HB hs1 hb1 z1 l1 hne hge
  go_wp2_with fail
  refine (l06Bent_src _ A n c 0 xs w1 (by omega) hS.out).mono ?_
  rintro e w2 ⟨⟨A2, n2, c2, B2, m2, d2, rfl, p, hm, hm', hn2, hn3⟩, hs2, hg2⟩
  have hX2 := hX1.out.grown hg2 (fun e => HNE.out (by injection e))
  have hB2 : Below w.heap.size w w2 := hB1.grown hg2 hB1.size (fun g h => by injection h with h; rw [← h]; exact HGE.out)
  have e0 := bx_p0 hX2
  have e00 := bx_p1 hX2
  have e1 := hX2.frozen 0
  have e11 := hX2.frozen 1
  have hsz : w2.heap.size ≤ ((w2.setCell ⟨w.heap.size, 0, none⟩ (.slice A2 n2 c2)).setCell ⟨w.heap.size, 1, none⟩ (.slice B2 m2 d2)).heap.size := by simp
  have HM := hid (((hm.setCell (p := ⟨w.heap.size, 0, none⟩) hl0 (.slice A2 n2 c2)).setCell (p := ⟨w.heap.size, 1, none⟩) hl0 (.slice B2 m2 d2)).more (Nat.le_of_lt hl0) hsz)
  have HM' := hid (((hm'.setCell (p := ⟨w.heap.size, 0, none⟩) hl0 (.slice A2 n2 c2)).setCell (p := ⟨w.heap.size, 1, none⟩) hl0 (.slice B2 m2 d2)).more (Nat.le_of_lt hl0) hsz)
  have HB2 := hid hB2
  clear hg2 hs2 hX2 hB2 hm hm' hS hX1 hB1 HNE HGE hsz
  go_wp2
  refine bodyPost_ret (v := .agg #[.slice A2 n2 c2, .slice B2 m2 d2]) ?_ rfl ?_
  · simp (maxDischargeDepth := 8) [results, Try.results32, go_sem, *]
  exact ⟨⟨A2, n2, c2, B2, m2, d2, rfl, p, HM.out, HM'.out, hn2, hn3⟩, (HB2.out.setCell (p := ⟨w.heap.size, 0, none⟩) (by show w.heap.size ≤ w.heap.size; exact Nat.le_refl _) _).setCell (p := ⟨w.heap.size, 1, none⟩) (by show w.heap.size ≤ w.heap.size; exact Nat.le_refl _) _⟩
theorem eight_any (w : World) (b : Nat) (hb : b = w.heap.size) (t : TypeId) : ∀ i, i < 8 → ∃ y : ByteArray, y.size ≤ 12 ∧ (w.alloc (Obj.cells #[.string ⟨#[60, 51, 112, 32, 51, 124, 51, 112, 32, 51, 62]⟩, .string ⟨#[60, 51, 124, 51]⟩, .string ⟨#[51, 124, 51, 62]⟩, .string ⟨#[60, 124, 62]⟩, .string ⟨#[60, 48, 112, 124, 51, 62]⟩, .string ⟨#[60, 51, 32, 51, 124, 51, 62]⟩, .string ⟨#[60, 51, 32, 32, 51, 124, 51, 32, 51, 62]⟩, .string ⟨#[60, 52, 112, 32, 51, 124, 51, 32, 52, 112, 62]⟩] t)).cell? ⟨b, 0 + i, none⟩ = some (.string y) := by
  intro i hi
  subst hb
  rw [World.cell?_alloc_at _ _ _ _ rfl]
  match i, hi with
  | 0, _ => refine ⟨_, ?_, rfl⟩; decide
  | 1, _ => refine ⟨_, ?_, rfl⟩; decide
  | 2, _ => refine ⟨_, ?_, rfl⟩; decide
  | 3, _ => refine ⟨_, ?_, rfl⟩; decide
  | 4, _ => refine ⟨_, ?_, rfl⟩; decide
  | 5, _ => refine ⟨_, ?_, rfl⟩; decide
  | 6, _ => refine ⟨_, ?_, rfl⟩; decide
  | 7, _ => refine ⟨_, ?_, rfl⟩; decide
theorem psSh_tlen {p : Psg} (h : psSh p = true) : (paT p).length ≤ 60 := by
  have h1 := psSh_iff.1 h
  have := paT_len p
  omega
set_option maxHeartbeats 1000000 in
theorem DrawReadPassing_any (A : Option Addr) (n c : Nat) (xs : List Int) (w : World) (hn : n ≤ 1099511627776) (hx : ∀ x ∈ xs, 0 ≤ x ∧ x ≤ 255) (hr : Rd w w.heap.size 1 A n (xs.map (Value.int .u8))) :
    Calls Try.prog 20 #[.slice A n c] w fun e w' => StrRes e ∧ Below w.heap.size w w' := by
  have h0 := hid (l00From_any A n c xs w hn hx hr)
  clear hx hr
  go_enter Try.func20, Try.ntmps20
  go_wp2_with fail
  refine h0.out.mono ?_
  rintro e w1 ⟨rfl, hs1, hb1⟩
  have z1 := hb1.size
  have l1 := hs1.lt
  clear h0
  go_wp2_with fail
  refine (l06Bent_src _ A n c 0 xs w1 (by omega) hs1).mono ?_
  rintro e w2 ⟨⟨A2, n2, c2, B2, m2, d2, rfl, p, hm, hm', hn2, hn3⟩, hs2, hg2⟩
  have hB2 : Below w.heap.size w w2 := hb1.grown hg2 z1 (fun g h => by simp at h; omega)
  have z2 := hg2.size
  have hbx : Below w2.heap.size w2 (w2.alloc (Obj.cells #[.slice A2 n2 c2, .slice B2 m2 d2] 35)) := (by repeat' (first | exact Below.refl _ _ | (with_reducible assumption) | (with_reducible refine Below.alloc ?_ ?_ _) | (with_reducible refine Below.setCell ?_ ?_ _) | (with_reducible refine Below.drew ?_) | (with_reducible refine below_drewN ?_ _) | (refine Below.trans ?_ (Below.mono (by assumption) ?_)) | (with_reducible exact Nat.le_refl _) | (with_reducible assumption) | (exact Below.size (by assumption)) | omega | go_size | (simp at *; omega)))
  have hX := Bx.new w2 35 #[.slice A2 n2 c2, .slice B2 m2 d2]
  have hm1 := ((hm.rd).below hbx (Nat.le_refl _)).more hbx.size
  have hm2 := ((hm'.rd).below hbx (Nat.le_refl _)).more hbx.size
  have hL := l06Shape_quiet w2.heap.size A2 B2 n2 c2 m2 d2 p (w2.alloc (Obj.cells #[.slice A2 n2 c2, .slice B2 m2 d2] 35)) (by omega) (by omega) hX hm1 hm2
  have hBx := bchain hB2 hbx
  have hsx := hs2.below hbx (by omega)
  have HM1 := hid hm1
  have HM2 := hid hm2
  have HX := hid hX
  have HBX := hid hBx
  have HSX := hid hsx
  have hl2 : w.heap.size < (w2.alloc (Obj.cells #[.slice A2 n2 c2, .slice B2 m2 d2] 35)).heap.size := by have := hbx.size; omega
  have HL2 := hid hl2
  clear hg2 hs1 hb1 hm hm' hm1 hm2 hX hBx hsx hbx hs2 hB2 hl2
  cases hok : psSh p with
  | true =>
    rw [hok] at hL
    have hL := hid hL
    have HSH := hid hok
    clear hok
    go_wp2_with fail
    refine hL.out.mono ?_
    rintro e w3 ⟨rfl, kk, rfl⟩
    have hdr : Below (w2.alloc (Obj.cells #[.slice A2 n2 c2, .slice B2 m2 d2] 35)).heap.size (w2.alloc (Obj.cells #[.slice A2 n2 c2, .slice B2 m2 d2] 35)) ((w2.alloc (Obj.cells #[.slice A2 n2 c2, .slice B2 m2 d2] 35)).drewN kk) := below_drewN (Below.refl _ _) kk
    have hB3 := bchain HBX.out hdr
    have hs3 := HSX.out.below hdr HL2.out
    have hX3 := HX.out.below hdr HX.out.lt
    have hm3 := HM1.out.below hdr (Nat.le_refl _)
    have hm4 := HM2.out.below hdr (Nat.le_refl _)
    have hz3 : w.heap.size < ((w2.alloc (Obj.cells #[.slice A2 n2 c2, .slice B2 m2 d2] 35)).drewN kk).heap.size := HL2.out
    have hC := l06Both_any w2.heap.size A2 B2 n2 c2 m2 d2 p ((w2.alloc (Obj.cells #[.slice A2 n2 c2, .slice B2 m2 d2] 35)).drewN kk) HSH.out hX3 hm3 hm4
    have hTs : (st (paT p)).size ≤ 60 := by rw [st_size]; exact psSh_tlen HSH.out
    obtain ⟨T, hTe⟩ : ∃ T, st (paT p) = T := ⟨_, rfl⟩
    rw [hTe] at hC hTs
    replace hC := hid hC
    have HB3 := hid hB3
    have HS3 := hid hs3
    have HZ3 := hid hz3
    clear hTe hL hX3 hm3 hm4 HX HM1 HM2 HBX HSX HL2 hdr hB3 hs3 hz3
    go_wp2_with fail
    refine hC.out.mono ?_
    rintro e w4 ⟨rfl, hb4⟩
    have hB4 := bchain HB3.out hb4
    have hs4 := HS3.out.below hb4 HZ3.out
    have hlw := Nat.lt_of_lt_of_le HZ3.out hb4.size
    clear hC HB3 HS3 HZ3 hb4
    go_wp2_with fail
    refine (pick_src _ A n c (0 + 200) xs 4 w4 (by omega) (by omega) hs4).mono ?_
    rintro e w5 ⟨⟨x, x0, x1, rfl⟩, hs5, hg5⟩
    have hB5 : Below w.heap.size w w5 := hB4.grown hg5 (by omega) (fun g h => by simp at h; omega)
    have z5 := hg5.size
    clear hg5 x1 hs4 hB4
    by_cases q0 : x = 0
    · subst q0
      go_wp2_with fail
      refine (l01Spoil_src _ A n c (0 + 200 + 2) xs T w5 (by omega) (by first | omega | decide) hs5).mono ?_
      rintro e w6 ⟨⟨S, hS, rfl⟩, hs6, hg6⟩
      have hB6 : Below w.heap.size w w6 := hB5.grown hg6 (by omega) (fun g h => by simp at h; omega)
      go_wp2
      go_ret
      exact ⟨⟨S, hS, rfl⟩, hB6⟩
    · by_cases q1 : x = 1
      · subst q1
        go_wp2_with fail
        refine (text_src _ A n c (0 + 200 + 2) xs w5.heap.size 0 8 8 _ (by omega) (by omega) (by simp) (by omega) (by omega) (eight_any w5 _ rfl _) (hs5.below (B := w5.heap.size) (by repeat' (first | exact Below.refl _ _ | (with_reducible assumption) | (with_reducible refine Below.alloc ?_ ?_ _) | (with_reducible refine Below.setCell ?_ ?_ _) | (with_reducible refine Below.drew ?_) | (with_reducible refine below_drewN ?_ _) | (refine Below.trans ?_ (Below.mono (by assumption) ?_)) | (with_reducible exact Nat.le_refl _) | (with_reducible assumption) | (exact Below.size (by assumption)) | omega | go_size | (simp at *; omega))) (by omega))).mono ?_
        rintro e w6 ⟨⟨y, hy, rfl⟩, hs6, hg6⟩
        have hb5 : Below w.heap.size w (w5.alloc (Obj.cells #[.string ⟨#[60, 51, 112, 32, 51, 124, 51, 112, 32, 51, 62]⟩, .string ⟨#[60, 51, 124, 51]⟩, .string ⟨#[51, 124, 51, 62]⟩, .string ⟨#[60, 124, 62]⟩, .string ⟨#[60, 48, 112, 124, 51, 62]⟩, .string ⟨#[60, 51, 32, 51, 124, 51, 62]⟩, .string ⟨#[60, 51, 32, 32, 51, 124, 51, 32, 51, 62]⟩, .string ⟨#[60, 52, 112, 32, 51, 124, 51, 32, 52, 112, 62]⟩] 9)) := hB5.alloc hB5.size _
        have hB6 : Below w.heap.size w w6 := hb5.grown hg6 hb5.size (fun g h => by simp at h; omega)
        go_wp2
        go_ret
        exact ⟨⟨y, by omega, rfl⟩, hB6⟩
      · have k0 : (x == 0) = false := by simpa using q0
        have k1 : (x == 1) = false := by simpa using q1
        go_wp2
        go_ret
        exact ⟨⟨T, by omega, rfl⟩, hB5⟩
  | false =>
    rw [hok] at hL
    have hL := hid hL
    clear hok
    go_wp2_with fail
    refine hL.out.mono ?_
    rintro e w3 ⟨rfl, kk, rfl⟩
    have hdr : Below (w2.alloc (Obj.cells #[.slice A2 n2 c2, .slice B2 m2 d2] 35)).heap.size (w2.alloc (Obj.cells #[.slice A2 n2 c2, .slice B2 m2 d2] 35)) ((w2.alloc (Obj.cells #[.slice A2 n2 c2, .slice B2 m2 d2] 35)).drewN kk) := below_drewN (Below.refl _ _) kk
    have hB4 := bchain HBX.out hdr
    have hs4 := HSX.out.below hdr HL2.out
    have hlw : w.heap.size < ((w2.alloc (Obj.cells #[.slice A2 n2 c2, .slice B2 m2 d2] 35)).drewN kk).heap.size := HL2.out
    clear hL HX HM1 HM2 HBX HSX HL2 hdr
    generalize ((w2.alloc (Obj.cells #[.slice A2 n2 c2, .slice B2 m2 d2] 35)).drewN kk) = w4 at *
    go_wp2_with fail
    refine (pick_src _ A n c (0 + 200) xs 4 w4 (by omega) (by omega) hs4).mono ?_
    rintro e w5 ⟨⟨x, x0, x1, rfl⟩, hs5, hg5⟩
    have hB5 : Below w.heap.size w w5 := hB4.grown hg5 (by omega) (fun g h => by simp at h; omega)
    have z5 := hg5.size
    clear hg5 x1 hs4 hB4
    by_cases q0 : x = 0
    · subst q0
      go_wp2_with fail
      refine (l01Spoil_src _ A n c (0 + 200 + 2) xs ⟨#[60, 51, 112, 124, 51, 112, 62]⟩ w5 (by omega) (by first | omega | decide) hs5).mono ?_
      rintro e w6 ⟨⟨S, hS, rfl⟩, hs6, hg6⟩
      have hB6 : Below w.heap.size w w6 := hB5.grown hg6 (by omega) (fun g h => by simp at h; omega)
      go_wp2
      go_ret
      exact ⟨⟨S, hS, rfl⟩, hB6⟩
    · by_cases q1 : x = 1
      · subst q1
        go_wp2_with fail
        refine (text_src _ A n c (0 + 200 + 2) xs w5.heap.size 0 8 8 _ (by omega) (by omega) (by simp) (by omega) (by omega) (eight_any w5 _ rfl _) (hs5.below (B := w5.heap.size) (by repeat' (first | exact Below.refl _ _ | (with_reducible assumption) | (with_reducible refine Below.alloc ?_ ?_ _) | (with_reducible refine Below.setCell ?_ ?_ _) | (with_reducible refine Below.drew ?_) | (with_reducible refine below_drewN ?_ _) | (refine Below.trans ?_ (Below.mono (by assumption) ?_)) | (with_reducible exact Nat.le_refl _) | (with_reducible assumption) | (exact Below.size (by assumption)) | omega | go_size | (simp at *; omega))) (by omega))).mono ?_
        rintro e w6 ⟨⟨y, hy, rfl⟩, hs6, hg6⟩
        have hb5 : Below w.heap.size w (w5.alloc (Obj.cells #[.string ⟨#[60, 51, 112, 32, 51, 124, 51, 112, 32, 51, 62]⟩, .string ⟨#[60, 51, 124, 51]⟩, .string ⟨#[51, 124, 51, 62]⟩, .string ⟨#[60, 124, 62]⟩, .string ⟨#[60, 48, 112, 124, 51, 62]⟩, .string ⟨#[60, 51, 32, 51, 124, 51, 62]⟩, .string ⟨#[60, 51, 32, 32, 51, 124, 51, 32, 51, 62]⟩, .string ⟨#[60, 52, 112, 32, 51, 124, 51, 32, 52, 112, 62]⟩] 9)) := hB5.alloc hB5.size _
        have hB6 : Below w.heap.size w w6 := hb5.grown hg6 hb5.size (fun g h => by simp at h; omega)
        go_wp2
        go_ret
        exact ⟨⟨y, by omega, rfl⟩, hB6⟩
      · have k0 : (x == 0) = false := by simpa using q0
        have k1 : (x == 1) = false := by simpa using q1
        go_wp2
        go_ret
        exact ⟨⟨⟨#[60, 51, 112, 124, 51, 112, 62]⟩, by decide, rfl⟩, hB5⟩
end Go.Proofs.Ytlbhfjbbkkkldaa
