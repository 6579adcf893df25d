/- Several texts in one: Qc, Nr, Nt. -/
import Derived.Test.YtgphkfnobmponaaGreatG20
import Derived.StillTailTactics
import Derived.Test.YtgphkfnobmponaaGreatG21
import Derived.Test.YtgphkfnobmponaaGreatG15
/- Contracts of the texts of passing patterns. -/
namespace Go.Proofs.YtgphkfnobmponaaGreat
open Go.RowKit
set_option linter.unusedVariables false

set_option maxHeartbeats 1000000 in
theorem passesText_any (A : Option Addr) (n c : Nat) (p : List PT) (w : World) (hn : n ≤ 8) (hp : ptsOk p = true) (hr : Rd w w.heap.size 2 A n (ths p)) :
    Calls Tryz.prog 63 #[.slice A n c] w fun e w' => e = .returned (.string (st (psTx p))) ∧ Below w.heap.size w w' := by
  have hlen := hr.th_len
  have hbd := hid (fun x (hx : x ∈ p) => (ptOk_iff.1 (ptsOk_iff.1 hp x hx)).1)
  have hst : Hid ((⟨#[]⟩ : ByteArray) = st (psTx (p.take 0))) := rfl
  have hsp := hid (fun (k : Nat) (x : PT) (h : p[k]? = some x) => psTx_step h)
  have hz : ({ data := #[48, 49, 50, 51, 52, 53, 54, 55, 56, 57, 97, 98, 99, 100, 101, 102] } : ByteArray).size = 16 := rfl
  have HR := hid hr
  have HL := hid hlen
  clear hr hp hlen
  go_enter Tryz.func63, Tryz.ntmps63
  go_wp2
  go_loopw [3, 8] (fun s i wr => Hid (∃ k : Nat, k ≤ n ∧ i = .int .i64 k ∧ s = .string (st (psTx (p.take k))) ∧ Below w.heap.size w wr)) (fun _ i _ => n - (intOf i).toNat)
  case atStart => exact hid ⟨0, Nat.zero_le _, rfl, by rw [hst.out], (by repeat' (first | exact Below.refl _ _ | (with_reducible first | assumption | exact Nat.le_refl _ | refine Below.alloc ?_ ?_ _ | refine Below.setCell ?_ ?_ _ | refine Below.drew ?_ | refine below_drewN ?_ _) | refine Below.trans ?_ (Below.mono (by assumption) ?_) | exact Below.size (by assumption) | omega | go_size | (simp at *; omega)))⟩
  case round =>
    obtain ⟨k, hk, rfl, rfl, hb0⟩ := hrel.out
    have hzz := hb0.size
    clear hrel
    by_cases hlt : k < n
    · obtain ⟨b, off, y, rfl, hb, hy, hd, c0, c1⟩ := (HR.out.below hb0 (Nat.le_refl _)).th_at hlt
      obtain ⟨y0, y1⟩ := hbd.out y (List.mem_of_getElem? hy)
      obtain ⟨v, q⟩ := y
      have hsp2 := hsp.out k _ hy
      simp only at y0 y1
      obtain ⟨V, rfl⟩ := Int.eq_ofNat_of_zero_le y0
      have he := hexS_ext (n := V) (by omega)
      have h1 : (V : Int) ≤ (V : Int) + 1 := by omega
      have h2 : (V : Int) + 1 ≤ 16 := by omega
      have hol : (st (psTx (p.take k))).size ≤ 24 := by
        rw [st_size]
        have h := psTx_len (p.take k)
        rw [List.length_take] at h
        omega
      obtain ⟨o2, ho2⟩ : ∃ o2, psTx (p.take (k + 1)) = o2 := ⟨_, rfl⟩
      rw [ho2] at hsp2
      have HO2 := hid ho2
      clear ho2
      generalize psTx (p.take k) = o at *
      obtain ⟨so, hso⟩ : ∃ so, st o = so := ⟨_, rfl⟩
      have hone : (st [hexU (V : Int)]).size = 1 := by rw [st_size]; rfl
      have hbw : b < wr.heap.size := by omega
      have e32 : (⟨#[32]⟩ : ByteArray) = st [32] := rfl
      have e112 : (⟨#[112]⟩ : ByteArray) = st [112] := rfl
      have s32 : (⟨#[32]⟩ : ByteArray).size = 1 := rfl
      have s112 : (⟨#[112]⟩ : ByteArray).size = 1 := rfl
      by_cases hk0 : k = 0
      · subst hk0
        rw [if_pos rfl] at hsp2
        simp only [Nat.zero_mul, Nat.add_zero] at c0 c1
        cases q
        · have HS : Hid (st o2 = so ++ st [hexU (V : Int)]) := by show _ = _; rw [hsp2, ← hso, st_append]; rfl
          rw [hso] at hol ⊢
          clear hy hd hso hsp2 e32 e112
          go_wp2
          go_roundw
          case rel => exact hid ⟨_, by first | exact (show k + 1 ≤ n by omega) | exact (show 0 + 1 ≤ n by omega), by go_num, by rw [HO2.out, HS.out], (by repeat' (first | exact Below.refl _ _ | (with_reducible first | assumption | exact Nat.le_refl _ | refine Below.alloc ?_ ?_ _ | refine Below.setCell ?_ ?_ _ | refine Below.drew ?_ | refine below_drewN ?_ _) | refine Below.trans ?_ (Below.mono (by assumption) ?_) | exact Below.size (by assumption) | omega | go_size | (simp at *; omega)))⟩
          case measure => simp [intOf]; omega
        · have HS : Hid (st o2 = so ++ st [hexU (V : Int)] ++ ⟨#[112]⟩) := by show _ = _; rw [hsp2, ← hso, e112, st_append, st_append]; simp [ptT]
          rw [hso] at hol ⊢
          clear hy hd hso hsp2 e32 e112
          go_wp2
          go_roundw
          case rel => exact hid ⟨_, by first | exact (show k + 1 ≤ n by omega) | exact (show 0 + 1 ≤ n by omega), by go_num, by rw [HO2.out, HS.out], (by repeat' (first | exact Below.refl _ _ | (with_reducible first | assumption | exact Nat.le_refl _ | refine Below.alloc ?_ ?_ _ | refine Below.setCell ?_ ?_ _ | refine Below.drew ?_ | refine below_drewN ?_ _) | refine Below.trans ?_ (Below.mono (by assumption) ?_) | exact Below.size (by assumption) | omega | go_size | (simp at *; omega)))⟩
          case measure => simp [intOf]; omega
      · have hgt : (0 : Int) < (k : Int) := by omega
        rw [if_neg hk0] at hsp2
        cases q
        · have HS : Hid (st o2 = so ++ ⟨#[32]⟩ ++ st [hexU (V : Int)]) := by show _ = _; rw [hsp2, ← hso, e32, st_append, st_append]; simp [ptT]
          rw [hso] at hol ⊢
          clear hy hd hso hsp2 e32 e112
          go_wp2
          go_roundw
          case rel => exact hid ⟨_, by first | exact (show k + 1 ≤ n by omega) | exact (show 0 + 1 ≤ n by omega), by go_num, by rw [HO2.out, HS.out], (by repeat' (first | exact Below.refl _ _ | (with_reducible first | assumption | exact Nat.le_refl _ | refine Below.alloc ?_ ?_ _ | refine Below.setCell ?_ ?_ _ | refine Below.drew ?_ | refine below_drewN ?_ _) | refine Below.trans ?_ (Below.mono (by assumption) ?_) | exact Below.size (by assumption) | omega | go_size | (simp at *; omega)))⟩
          case measure => simp [intOf]; omega
        · have HS : Hid (st o2 = so ++ ⟨#[32]⟩ ++ st [hexU (V : Int)] ++ ⟨#[112]⟩) := by show _ = _; rw [hsp2, ← hso, e32, e112, st_append, st_append, st_append]; simp [ptT]
          rw [hso] at hol ⊢
          clear hy hd hso hsp2 e32 e112
          go_wp2
          go_roundw
          case rel => exact hid ⟨_, by first | exact (show k + 1 ≤ n by omega) | exact (show 0 + 1 ≤ n by omega), by go_num, by rw [HO2.out, HS.out], (by repeat' (first | exact Below.refl _ _ | (with_reducible first | assumption | exact Nat.le_refl _ | refine Below.alloc ?_ ?_ _ | refine Below.setCell ?_ ?_ _ | refine Below.drew ?_ | refine below_drewN ?_ _) | refine Below.trans ?_ (Below.mono (by assumption) ?_) | exact Below.size (by assumption) | omega | go_size | (simp at *; omega)))⟩
          case measure => simp [intOf]; omega
    · have hkn : k = n := by omega
      have HE : Hid (st (psTx p) = st (psTx (p.take k))) := by show _ = _; rw [List.take_of_length_le (by rw [HL.out]; omega)]
      clear hkn
      go_wp2
      go_ret
      exact ⟨ret_str HE.out.symm, hb0⟩
set_option maxHeartbeats 1000000 in
theorem l06Text_any (A : Option Addr) (n c : Nat) (p : List PT) (w : World) (hn : n ≤ 8) (hp : ptsOk p = true) (hr : Rd w w.heap.size 2 A n (ths p)) :
    Calls Tryz.prog 123 #[.slice A n c] w fun e w' => e = .returned (.string (st (psTx p))) ∧ Below w.heap.size w w' := by
  have hlen := hr.th_len
  have hbd := hid (fun x (hx : x ∈ p) => (ptOk_iff.1 (ptsOk_iff.1 hp x hx)).1)
  have hst : Hid ((⟨#[]⟩ : ByteArray) = st (psTx (p.take 0))) := rfl
  have hsp := hid (fun (k : Nat) (x : PT) (h : p[k]? = some x) => psTx_step h)
  have hz : ({ data := #[48, 49, 50, 51, 52, 53, 54, 55, 56, 57, 97, 98, 99, 100, 101, 102] } : ByteArray).size = 16 := rfl
  have HR := hid hr
  have HL := hid hlen
  clear hr hp hlen
  go_enter Tryz.func123, Tryz.ntmps123
  go_wp2
  go_loopw [3, 4] (fun s i wr => Hid (∃ k : Nat, k ≤ n ∧ i = .int .i64 k ∧ s = .string (st (psTx (p.take k))) ∧ Below w.heap.size w wr)) (fun _ i _ => n - (intOf i).toNat)
  case atStart => exact hid ⟨0, Nat.zero_le _, rfl, by rw [hst.out], (by repeat' (first | exact Below.refl _ _ | (with_reducible first | assumption | exact Nat.le_refl _ | refine Below.alloc ?_ ?_ _ | refine Below.setCell ?_ ?_ _ | refine Below.drew ?_ | refine below_drewN ?_ _) | refine Below.trans ?_ (Below.mono (by assumption) ?_) | exact Below.size (by assumption) | omega | go_size | (simp at *; omega)))⟩
  case round =>
    obtain ⟨k, hk, rfl, rfl, hb0⟩ := hrel.out
    have hzz := hb0.size
    clear hrel
    by_cases hlt : k < n
    · obtain ⟨b, off, y, rfl, hb, hy, hd, c0, c1⟩ := (HR.out.below hb0 (Nat.le_refl _)).th_at hlt
      obtain ⟨y0, y1⟩ := hbd.out y (List.mem_of_getElem? hy)
      obtain ⟨v, q⟩ := y
      have hsp2 := hsp.out k _ hy
      simp only at y0 y1
      obtain ⟨V, rfl⟩ := Int.eq_ofNat_of_zero_le y0
      have he := hexS_ext (n := V) (by omega)
      have h1 : (V : Int) ≤ (V : Int) + 1 := by omega
      have h2 : (V : Int) + 1 ≤ 16 := by omega
      have hol : (st (psTx (p.take k))).size ≤ 24 := by
        rw [st_size]
        have h := psTx_len (p.take k)
        rw [List.length_take] at h
        omega
      obtain ⟨o2, ho2⟩ : ∃ o2, psTx (p.take (k + 1)) = o2 := ⟨_, rfl⟩
      rw [ho2] at hsp2
      have HO2 := hid ho2
      clear ho2
      generalize psTx (p.take k) = o at *
      obtain ⟨so, hso⟩ : ∃ so, st o = so := ⟨_, rfl⟩
      have hone : (st [hexU (V : Int)]).size = 1 := by rw [st_size]; rfl
      have hbw : b < wr.heap.size := by omega
      have e32 : (⟨#[32]⟩ : ByteArray) = st [32] := rfl
      have e112 : (⟨#[112]⟩ : ByteArray) = st [112] := rfl
      have s32 : (⟨#[32]⟩ : ByteArray).size = 1 := rfl
      have s112 : (⟨#[112]⟩ : ByteArray).size = 1 := rfl
      by_cases hk0 : k = 0
      · subst hk0
        rw [if_pos rfl] at hsp2
        simp only [Nat.zero_mul, Nat.add_zero] at c0 c1
        cases q
        · have HS : Hid (st o2 = so ++ st [hexU (V : Int)]) := by show _ = _; rw [hsp2, ← hso, st_append]; rfl
          rw [hso] at hol ⊢
          clear hy hd hso hsp2 e32 e112
          go_wp2_with (go_at_call 121; refine (l04Digit_any _ _ (by omega) (by omega)).mono ?_; rintro e w' ⟨rfl, rfl⟩)
          go_roundw
          case rel => exact hid ⟨_, by first | exact (show k + 1 ≤ n by omega) | exact (show 0 + 1 ≤ n by omega), by go_num, by rw [HO2.out, HS.out], (by repeat' (first | exact Below.refl _ _ | (with_reducible first | assumption | exact Nat.le_refl _ | refine Below.alloc ?_ ?_ _ | refine Below.setCell ?_ ?_ _ | refine Below.drew ?_ | refine below_drewN ?_ _) | refine Below.trans ?_ (Below.mono (by assumption) ?_) | exact Below.size (by assumption) | omega | go_size | (simp at *; omega)))⟩
          case measure => simp [intOf]; omega
        · have HS : Hid (st o2 = so ++ st [hexU (V : Int)] ++ ⟨#[112]⟩) := by show _ = _; rw [hsp2, ← hso, e112, st_append, st_append]; simp [ptT]
          rw [hso] at hol ⊢
          clear hy hd hso hsp2 e32 e112
          go_wp2_with (go_at_call 121; refine (l04Digit_any _ _ (by omega) (by omega)).mono ?_; rintro e w' ⟨rfl, rfl⟩)
          go_roundw
          case rel => exact hid ⟨_, by first | exact (show k + 1 ≤ n by omega) | exact (show 0 + 1 ≤ n by omega), by go_num, by rw [HO2.out, HS.out], (by repeat' (first | exact Below.refl _ _ | (with_reducible first | assumption | exact Nat.le_refl _ | refine Below.alloc ?_ ?_ _ | refine Below.setCell ?_ ?_ _ | refine Below.drew ?_ | refine below_drewN ?_ _) | refine Below.trans ?_ (Below.mono (by assumption) ?_) | exact Below.size (by assumption) | omega | go_size | (simp at *; omega)))⟩
          case measure => simp [intOf]; omega
      · have hgt : (0 : Int) < (k : Int) := by omega
        rw [if_neg hk0] at hsp2
        cases q
        · have HS : Hid (st o2 = so ++ ⟨#[32]⟩ ++ st [hexU (V : Int)]) := by show _ = _; rw [hsp2, ← hso, e32, st_append, st_append]; simp [ptT]
          rw [hso] at hol ⊢
          clear hy hd hso hsp2 e32 e112
          go_wp2_with (go_at_call 121; refine (l04Digit_any _ _ (by omega) (by omega)).mono ?_; rintro e w' ⟨rfl, rfl⟩)
          go_roundw
          case rel => exact hid ⟨_, by first | exact (show k + 1 ≤ n by omega) | exact (show 0 + 1 ≤ n by omega), by go_num, by rw [HO2.out, HS.out], (by repeat' (first | exact Below.refl _ _ | (with_reducible first | assumption | exact Nat.le_refl _ | refine Below.alloc ?_ ?_ _ | refine Below.setCell ?_ ?_ _ | refine Below.drew ?_ | refine below_drewN ?_ _) | refine Below.trans ?_ (Below.mono (by assumption) ?_) | exact Below.size (by assumption) | omega | go_size | (simp at *; omega)))⟩
          case measure => simp [intOf]; omega
        · have HS : Hid (st o2 = so ++ ⟨#[32]⟩ ++ st [hexU (V : Int)] ++ ⟨#[112]⟩) := by show _ = _; rw [hsp2, ← hso, e32, e112, st_append, st_append, st_append]; simp [ptT]
          rw [hso] at hol ⊢
          clear hy hd hso hsp2 e32 e112
          go_wp2_with (go_at_call 121; refine (l04Digit_any _ _ (by omega) (by omega)).mono ?_; rintro e w' ⟨rfl, rfl⟩)
          go_roundw
          case rel => exact hid ⟨_, by first | exact (show k + 1 ≤ n by omega) | exact (show 0 + 1 ≤ n by omega), by go_num, by rw [HO2.out, HS.out], (by repeat' (first | exact Below.refl _ _ | (with_reducible first | assumption | exact Nat.le_refl _ | refine Below.alloc ?_ ?_ _ | refine Below.setCell ?_ ?_ _ | refine Below.drew ?_ | refine below_drewN ?_ _) | refine Below.trans ?_ (Below.mono (by assumption) ?_) | exact Below.size (by assumption) | omega | go_size | (simp at *; omega)))⟩
          case measure => simp [intOf]; omega
    · have hkn : k = n := by omega
      have HE : Hid (st (psTx p) = st (psTx (p.take k))) := by show _ = _; rw [List.take_of_length_le (by rw [HL.out]; omega)]
      clear hkn
      go_wp2
      go_ret
      exact ⟨ret_str HE.out.symm, hb0⟩
theorem st60 (x y : List UInt8) : (⟨#[60]⟩ : ByteArray) ++ st x ++ ⟨#[124]⟩ ++ st y ++ ⟨#[62]⟩ = st (60 :: (x ++ 124 :: (y ++ [62]))) := by
  rw [show (⟨#[60]⟩ : ByteArray) = st [60] from rfl, show (⟨#[124]⟩ : ByteArray) = st [124] from rfl, show (⟨#[62]⟩ : ByteArray) = st [62] from rfl]
  simp only [st_append]
  congr 1
  simp
set_option maxRecDepth 100000 in
set_option maxHeartbeats 1000000 in
theorem PassingText_any (A B : Option Addr) (n c m d : Nat) (p : Psg) (w : World) (hn : n ≤ 1099511627776) (hm : m ≤ 1099511627776) (hr : Rd w w.heap.size 2 A n (ths p.1)) (hs : Rd w w.heap.size 2 B m (ths p.2)) :
    Calls Tryz.prog 29 #[.agg #[.slice A n c, .slice B m d]] w fun e w' => e = .returned (.string (st (rPassingText p))) ∧ Below w.heap.size w w' := by
  have hbx : Below w.heap.size w (w.alloc (Obj.cells #[.slice A n c, .slice B m d] 31)) := (by repeat' (first | exact Below.refl _ _ | (with_reducible first | assumption | exact Nat.le_refl _ | refine Below.alloc ?_ ?_ _ | refine Below.setCell ?_ ?_ _ | refine Below.drew ?_ | refine below_drewN ?_ _) | refine Below.trans ?_ (Below.mono (by assumption) ?_) | exact Below.size (by assumption) | omega | go_size | (simp at *; omega)))
  have hV := ValidPassing_any A B n c m d p _ hn hm ((hr.below hbx (Nat.le_refl _)).more hbx.size) ((hs.below hbx (Nat.le_refl _)).more hbx.size)
  have hX := Bx.new w 31 #[.slice A n c, .slice B m d]
  have hXl := hX.lt
  cases hp : psOk p with
  | true =>
    rw [hp] at hV
    have hV := hid hV
    obtain ⟨hsh, _⟩ := psOk_iff.1 hp
    obtain ⟨⟨h1, h8⟩, he, ha, hb⟩ := psSh_iff.1 hsh
    have l1 := hr.th_len
    have l2 := hs.th_len
    have hT1 := hid (fun (w1 : World) (b : Below w.heap.size w w1) => passesText_any A n c p.1 w1 (by omega) ha ((hr.below b (Nat.le_refl _)).more b.size))
    have hT2 := hid (fun (w1 : World) (b : Below w.heap.size w w1) => passesText_any B m d p.2 w1 (by omega) hb ((hs.below b (Nat.le_refl _)).more b.size))
    have hq1 : (st (psTx p.1)).size ≤ 24 := by rw [st_size]; have := psTx_len p.1; omega
    have hq2 : (st (psTx p.2)).size ≤ 24 := by rw [st_size]; have := psTx_len p.2; omega
    have HO : Hid (st (rPassingText p) = (⟨#[60]⟩ : ByteArray) ++ st (psTx p.1) ++ ⟨#[124]⟩ ++ st (psTx p.2) ++ ⟨#[62]⟩) := by show _ = _; rw [rPassingText, if_pos hp, st60, paT]
    generalize st (psTx p.1) = sa at *
    generalize st (psTx p.2) = sb at *
    have g1 : ¬ (9223372036854775807 < 1 + sa.size) := by omega
    have g2 : ¬ (9223372036854775807 < 1 + sa.size + 1) := by omega
    have g3 : ¬ (9223372036854775807 < 1 + sa.size + 1 + sb.size) := by omega
    have g4 : ¬ (9223372036854775807 < 1 + sa.size + 1 + sb.size + 1) := by omega
    clear hr hs hp hsh h1 h8 he ha hb l1 l2
    go_enter Tryz.func29, Tryz.ntmps29
    go_wp2_with fail
    refine hV.out.mono ?_
    rintro e w1 ⟨rfl, hb1⟩
    have hB1 : Below w.heap.size w w1 := (by repeat' (first | exact Below.refl _ _ | (with_reducible first | assumption | exact Nat.le_refl _ | refine Below.alloc ?_ ?_ _ | refine Below.setCell ?_ ?_ _ | refine Below.drew ?_ | refine below_drewN ?_ _) | refine Below.trans ?_ (Below.mono (by assumption) ?_) | exact Below.size (by assumption) | omega | go_size | (simp at *; omega)))
    have c0 := (hX.below hb1 hXl).cell 0
    have c1 := (hX.below hb1 hXl).cell 1
    have z1 := hb1.size
    have zz : w.heap.size < w1.heap.size := by simp at z1; omega
    replace c0 : w1.cell? ⟨w.heap.size, 0, none⟩ = some (.slice A n c) := c0
    replace c1 : w1.cell? ⟨w.heap.size, 1, none⟩ = some (.slice B m d) := c1
    clear hX hV hb1
    go_wp2
    have hS := hid (fun (w9 : World) (b : Below w1.heap.size w1 w9) => (⟨b, (b.cell (p := ⟨w.heap.size, 0, none⟩) zz).trans c0, (b.cell (p := ⟨w.heap.size, 1, none⟩) zz).trans c1⟩ : Below w1.heap.size w1 w9 ∧ w9.cell? ⟨w.heap.size, 0, none⟩ = some (.slice A n c) ∧ w9.cell? ⟨w.heap.size, 1, none⟩ = some (.slice B m d)))
    have hT1 := hid (fun (w9 : World) (b : Below w1.heap.size w1 w9) => hT1.out w9 (bchain hB1 b))
    have hT2 := hid (fun (w9 : World) (b : Below w1.heap.size w1 w9) => hT2.out w9 (bchain hB1 b))
    have hBd : Below w1.heap.size w1 w1.drew := (by repeat' (first | exact Below.refl _ _ | (with_reducible first | assumption | exact Nat.le_refl _ | refine Below.alloc ?_ ?_ _ | refine Below.setCell ?_ ?_ _ | refine Below.drew ?_ | refine below_drewN ?_ _) | refine Below.trans ?_ (Below.mono (by assumption) ?_) | exact Below.size (by assumption) | omega | go_size | (simp at *; omega)))
    go_region_held3 (fun w' => Below w1.heap.size w1 w' ∧ w'.cell? ⟨w.heap.size, 0, none⟩ = some (.slice A n c) ∧ w'.cell? ⟨w.heap.size, 1, none⟩ = some (.slice B m d)) (with_reducible exact hS.out _ (by assumption)) (first | (go_at_call 63; with_reducible refine (hT1.out _ (by assumption)).mono ?_; rintro e w5 ⟨rfl, hb5⟩; have hB5 := bchain (show Below w1.heap.size w1 _ by assumption) hb5) | (go_at_call 63; with_reducible refine (hT2.out _ (by assumption)).mono ?_; rintro e w5 ⟨rfl, hb5⟩; have hB5 := bchain (show Below w1.heap.size w1 _ by assumption) hb5))
    all_goals
      go_wp2
      go_ret
      exact ⟨ret_str HO.out.symm, bchain hB1 (by assumption)⟩
  | false =>
    rw [hp] at hV
    have hV := hid hV
    have HO : Hid (st (rPassingText p) = ⟨#[]⟩) := by show _ = _; rw [rPassingText, if_neg (by rw [hp]; decide)]; rfl
    clear hr hs hp hX
    go_enter Tryz.func29, Tryz.ntmps29
    go_wp2_with fail
    refine hV.out.mono ?_
    rintro e w1 ⟨rfl, hb1⟩
    go_wp2
    go_ret
    exact ⟨ret_str HO.out.symm, (by repeat' (first | exact Below.refl _ _ | (with_reducible first | assumption | exact Nat.le_refl _ | refine Below.alloc ?_ ?_ _ | refine Below.setCell ?_ ?_ _ | refine Below.drew ?_ | refine below_drewN ?_ _) | refine Below.trans ?_ (Below.mono (by assumption) ?_) | exact Below.size (by assumption) | omega | go_size | (simp at *; omega)))⟩
set_option maxRecDepth 100000 in
set_option maxHeartbeats 1000000 in
theorem l06Both_at (g o : Nat) (A B : Option Addr) (n c m d : Nat) (p : Psg) (w : World) (hsh : psSh p = true) (hx : Bo w g o #[.slice A n c, .slice B m d]) (hr : Rd w w.heap.size 2 A n (ths p.1)) (hs : Rd w w.heap.size 2 B m (ths p.2)) :
    Calls Tryz.prog 91 #[.pointer (some ⟨g, o, none⟩)] w fun e w' => e = .returned (.string (st (paT p))) ∧ Below w.heap.size w w' := by
  obtain ⟨⟨h1, h8⟩, he, ha, hb⟩ := psSh_iff.1 hsh
  have l1 := hr.th_len
  have l2 := hs.th_len
  have hT1 := hid (fun (w1 : World) (b : Below w.heap.size w w1) => l06Text_any A n c p.1 w1 (by omega) ha ((hr.below b (Nat.le_refl _)).more b.size))
  have hT2 := hid (fun (w1 : World) (b : Below w.heap.size w w1) => l06Text_any B m d p.2 w1 (by omega) hb ((hs.below b (Nat.le_refl _)).more b.size))
  have hq1 : (st (psTx p.1)).size ≤ 24 := by rw [st_size]; have := psTx_len p.1; omega
  have hq2 : (st (psTx p.2)).size ≤ 24 := by rw [st_size]; have := psTx_len p.2; omega
  have HO : Hid (st (paT p) = (⟨#[60]⟩ : ByteArray) ++ st (psTx p.1) ++ ⟨#[124]⟩ ++ st (psTx p.2) ++ ⟨#[62]⟩) := by show _ = _; rw [st60, paT]
  generalize st (psTx p.1) = sa at *
  generalize st (psTx p.2) = sb at *
  have g1 : ¬ (9223372036854775807 < 1 + sa.size) := by omega
  have g2 : ¬ (9223372036854775807 < 1 + sa.size + 1) := by omega
  have g3 : ¬ (9223372036854775807 < 1 + sa.size + 1 + sb.size) := by omega
  have g4 : ¬ (9223372036854775807 < 1 + sa.size + 1 + sb.size + 1) := by omega
  have hgl := hx.lt
  have c0 := hx.cell 0
  have c1 := hx.cell 1
  replace c0 : w.cell? ⟨g, o, none⟩ = some (.slice A n c) := c0
  replace c1 : w.cell? ⟨g, o + 1, none⟩ = some (.slice B m d) := c1
  have hS := hid (fun (w9 : World) (b : Below w.heap.size w w9) => (⟨b, (b.cell (p := ⟨g, o, none⟩) hgl).trans c0, (b.cell (p := ⟨g, o + 1, none⟩) hgl).trans c1⟩ : Below w.heap.size w w9 ∧ w9.cell? ⟨g, o, none⟩ = some (.slice A n c) ∧ w9.cell? ⟨g, o + 1, none⟩ = some (.slice B m d)))
  have hBd : Below w.heap.size w w.drew := (by repeat' (first | exact Below.refl _ _ | (with_reducible first | assumption | exact Nat.le_refl _ | refine Below.alloc ?_ ?_ _ | refine Below.setCell ?_ ?_ _ | refine Below.drew ?_ | refine below_drewN ?_ _) | refine Below.trans ?_ (Below.mono (by assumption) ?_) | exact Below.size (by assumption) | omega | go_size | (simp at *; omega)))
  clear hr hs hsh h1 h8 he ha hb l1 l2 hx
  go_enter Tryz.func91, Tryz.ntmps91
  go_wp2
  go_region_held3 (fun w' => Below w.heap.size w w' ∧ w'.cell? ⟨g, o, none⟩ = some (.slice A n c) ∧ w'.cell? ⟨g, o + 1, none⟩ = some (.slice B m d)) (with_reducible exact hS.out _ (by assumption)) (first | (go_at_call 123; with_reducible refine (hT1.out _ (by assumption)).mono ?_; rintro e w5 ⟨rfl, hb5⟩; have hB5 := bchain (show Below w.heap.size w _ by assumption) hb5) | (go_at_call 123; with_reducible refine (hT2.out _ (by assumption)).mono ?_; rintro e w5 ⟨rfl, hb5⟩; have hB5 := bchain (show Below w.heap.size w _ by assumption) hb5))
  all_goals
    go_wp2
    go_ret
    exact ⟨ret_str HO.out.symm, by assumption⟩
end Go.Proofs.YtgphkfnobmponaaGreat

/- Contracts of the laws' own helpers that count and copy arguments: sizes, and copies of multiplex, synchronous and passing patterns. -/
namespace Go.Proofs.YtgphkfnobmponaaGreat
open Go.RowKit
set_option linter.unusedVariables false

/-- What is left of a purse: nothing, or no more than was there, and n things less. -/
def Left (L : Nat) (n : Nat) (r : Int) : Prop := r = -1 ∨ (0 ≤ r ∧ r + n ≤ L)
theorem Left.two {L n m : Nat} {x : Nat} {r : Int} (h : Left L n (x : Int)) (k : Left x m r) : Left L (n + m) r := by
  rcases h with h | h
  · omega
  · rcases k with k | k
    · exact .inl k
    · exact .inr (by omega)
end Go.Proofs.YtgphkfnobmponaaGreat

/- Plain facts: which notations are valid; their beats, props and texts. Nothing of the program is named here. -/
namespace Go.Proofs.YtgphkfnobmponaaGreat
open Go.RowKit
set_option linter.unusedVariables false

/-- All fields but that of the kind are empty, by their lengths. -/
def ebL (k : Int) (n1 n2 n3 n4 n5 : Nat) : Bool := (k == 1 || (n1 : Int) == 0) && (k == 2 || (n2 : Int) == 0) && (k == 3 || (n3 : Int) == 0) && (k == 4 || (n4 : Int) + (n5 : Int) == 0)
def ebN (x : Note) : Bool := ebL x.1 x.2.1.length x.2.2.1.length x.2.2.2.1.length x.2.2.2.2.1.length x.2.2.2.2.2.length
/-- The field of the kind is valid. -/
def swN (x : Note) : Bool := if x.1 = 1 then okP x.2.1 else if x.1 = 2 then mOk x.2.2.1 else if x.1 = 3 then syOk x.2.2.2.1 else if x.1 = 4 then psOk x.2.2.2.2 else false
def ntOk (x : Note) : Bool := ebN x && swN x
/-- How many fields are empty. -/
def emp (n : Nat) : Nat := if n = 0 then 1 else 0
def cntN (x : Note) : Nat := emp x.2.1.length + emp x.2.2.1.length + emp x.2.2.2.1.length + emp (x.2.2.2.2.1.length + x.2.2.2.2.2.length)
theorem ntOk_no {x : Note} (h : ebN x = false) : ntOk x = false := by rw [ntOk, h]; rfl
theorem ntOk_yes {x : Note} (h : ebN x = true) : ntOk x = swN x := by rw [ntOk, h]; rfl
theorem swN_1 {x : Note} (h : x.1 = 1) : swN x = okP x.2.1 := by rw [swN, if_pos h]
theorem swN_2 {x : Note} (h : x.1 = 2) : swN x = mOk x.2.2.1 := by rw [swN, if_neg (by omega), if_pos h]
theorem swN_3 {x : Note} (h : x.1 = 3) : swN x = syOk x.2.2.2.1 := by rw [swN, if_neg (by omega), if_neg (by omega), if_pos h]
theorem swN_4 {x : Note} (h : x.1 = 4) : swN x = psOk x.2.2.2.2 := by rw [swN, if_neg (by omega), if_neg (by omega), if_neg (by omega), if_pos h]
theorem swN_0 {x : Note} (h1 : x.1 ≠ 1) (h2 : x.1 ≠ 2) (h3 : x.1 ≠ 3) (h4 : x.1 ≠ 4) : swN x = false := by rw [swN, if_neg h1, if_neg h2, if_neg h3, if_neg h4]
theorem ok_len {p : List Int} (h : okP p = true) : 1 ≤ p.length := (thOk_iff (okP_th h)).2.1
theorem m_len {m : List (List Int)} (h : mOk m = true) : 1 ≤ m.length := (msSh_iff.1 (mOk_iff.1 h).1).1.1
theorem sy_len {y : List Beat} (h : syOk y = true) : 1 ≤ y.length := by
  have hb : beatsOk y = true := by unfold syOk at h; rw [Bool.and_eq_true] at h; exact h.1
  exact (beatsOk_iff.1 hb).2.1
theorem ps_len {q : Psg} (h : psOk q = true) : 1 ≤ q.1.length := (psSh_iff.1 (psOk_iff.1 h).1).1.1
theorem ebN_iff {x : Note} : ebN x = true ↔ (x.1 = 1 ∨ x.2.1.length = 0) ∧ (x.1 = 2 ∨ x.2.2.1.length = 0) ∧ (x.1 = 3 ∨ x.2.2.2.1.length = 0) ∧ (x.1 = 4 ∨ x.2.2.2.2.1.length + x.2.2.2.2.2.length = 0) := by
  unfold ebN ebL
  simp only [Bool.and_eq_true, Bool.or_eq_true, beq_iff_eq]
  constructor
  · rintro ⟨⟨⟨h1, h2⟩, h3⟩, h4⟩
    exact ⟨by omega, by omega, by omega, by omega⟩
  · rintro ⟨h1, h2, h3, h4⟩
    exact ⟨⟨⟨by omega, by omega⟩, by omega⟩, by omega⟩
/-- Three fields are empty: then the kind's own field decides. -/
theorem ntOk_3 {x : Note} (h : cntN x = 3) : ntOk x = swN x := by
  cases he : ebN x with
  | true => exact ntOk_yes he
  | false =>
    rw [ntOk_no he]
    cases hs : swN x with
    | false => rfl
    | true =>
      exfalso
      have hn : ¬ ((x.1 = 1 ∨ x.2.1.length = 0) ∧ (x.1 = 2 ∨ x.2.2.1.length = 0) ∧ (x.1 = 3 ∨ x.2.2.2.1.length = 0) ∧ (x.1 = 4 ∨ x.2.2.2.2.1.length + x.2.2.2.2.2.length = 0)) := by rw [← ebN_iff, he]; decide
      have hk : x.1 = 1 ∨ x.1 = 2 ∨ x.1 = 3 ∨ x.1 = 4 ∨ (x.1 ≠ 1 ∧ x.1 ≠ 2 ∧ x.1 ≠ 3 ∧ x.1 ≠ 4) := by omega
      unfold cntN emp at h
      rcases hk with k | k | k | k | ⟨k1, k2, k3, k4⟩
      · rw [swN_1 k] at hs
        have := ok_len hs
        split at h <;> split at h <;> split at h <;> split at h <;> omega
      · rw [swN_2 k] at hs
        have := m_len hs
        split at h <;> split at h <;> split at h <;> split at h <;> omega
      · rw [swN_3 k] at hs
        have := sy_len hs
        split at h <;> split at h <;> split at h <;> split at h <;> omega
      · rw [swN_4 k] at hs
        have := ps_len hs
        split at h <;> split at h <;> split at h <;> split at h <;> omega
      · rw [swN_0 k1 k2 k3 k4] at hs; cases hs
theorem ntOk_n3 {x : Note} (h : cntN x ≠ 3) : ntOk x = false := by
  cases he : ebN x with
  | false => exact ntOk_no he
  | true =>
    rw [ntOk_yes he]
    cases hs : swN x with
    | false => rfl
    | true =>
      exfalso
      have hn := ebN_iff.1 he
      have hk : x.1 = 1 ∨ x.1 = 2 ∨ x.1 = 3 ∨ x.1 = 4 ∨ (x.1 ≠ 1 ∧ x.1 ≠ 2 ∧ x.1 ≠ 3 ∧ x.1 ≠ 4) := by omega
      unfold cntN emp at h
      rcases hk with k | k | k | k | ⟨k1, k2, k3, k4⟩
      · rw [swN_1 k] at hs
        have := ok_len hs
        split at h <;> split at h <;> split at h <;> split at h <;> omega
      · rw [swN_2 k] at hs
        have := m_len hs
        split at h <;> split at h <;> split at h <;> split at h <;> omega
      · rw [swN_3 k] at hs
        have := sy_len hs
        split at h <;> split at h <;> split at h <;> split at h <;> omega
      · rw [swN_4 k] at hs
        have := ps_len hs
        split at h <;> split at h <;> split at h <;> split at h <;> omega
      · rw [swN_0 k1 k2 k3 k4] at hs; cases hs
end Go.Proofs.YtgphkfnobmponaaGreat
