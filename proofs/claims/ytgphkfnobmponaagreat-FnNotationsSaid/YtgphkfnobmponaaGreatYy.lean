/- The text: Yy. -/
import Derived.Test.YtgphkfnobmponaaGreatYx
import Derived.Test.YtgphkfnobmponaaGreatG04
import Derived.Deep.RegionHeld3
/- Contracts of the texts of synchronous patterns: throws, texts. -/
namespace Go.Proofs.YtgphkfnobmponaaGreat
open Go.RowKit
set_option linter.unusedVariables false

theorem thText_any (x : Int) (c : Bool) (w : World) (x0 : 0 ≤ x) (x1 : x ≤ 15) :
    Calls Tryz.prog 62 #[.agg #[.int .i64 x, .bool c]] w fun e w' => e = .returned (.string (st (thT (x, c)))) ∧ Below w.heap.size w w' := by
  obtain ⟨n, rfl⟩ := Int.eq_ofNat_of_zero_le x0
  have he := hexS_ext (n := n) (by omega)
  have h1 : (n : Int) ≤ (n : Int) + 1 := by omega
  have h2 : (n : Int) + 1 ≤ 16 := by omega
  have hz : ({ data := #[48, 49, 50, 51, 52, 53, 54, 55, 56, 57, 97, 98, 99, 100, 101, 102] } : ByteArray).size = 16 := rfl
  cases c
  · have hr : Hid (st (thT ((n : Int), false)) = st [hexU (n : Int)]) := rfl
    go_enter Tryz.func62, Tryz.ntmps62
    go_wp2
    go_ret
    exact ⟨ret_str (by rw [hr.out]), (by repeat' (first | exact Below.refl _ _ | (with_reducible first | assumption | exact Nat.le_refl _ | refine Below.alloc ?_ ?_ _ | refine Below.setCell ?_ ?_ _ | refine Below.drew ?_ | refine below_drewN ?_ _) | refine Below.trans ?_ (Below.mono (by assumption) ?_) | exact Below.size (by assumption) | omega | go_size | (simp at *; omega)))⟩
  · have hr : Hid (st (thT ((n : Int), true)) = st [hexU (n : Int)] ++ ⟨#[120]⟩) := by show _ = _; rw [show (⟨#[120]⟩ : ByteArray) = st [120] from rfl, st_append]; rfl
    go_enter Tryz.func62, Tryz.ntmps62
    go_wp2
    go_ret
    exact ⟨ret_str (by rw [hr.out]), (by repeat' (first | exact Below.refl _ _ | (with_reducible first | assumption | exact Nat.le_refl _ | refine Below.alloc ?_ ?_ _ | refine Below.setCell ?_ ?_ _ | refine Below.drew ?_ | refine below_drewN ?_ _) | refine Below.trans ?_ (Below.mono (by assumption) ?_) | exact Below.size (by assumption) | omega | go_size | (simp at *; omega)))⟩
theorem l05One_any (x : Int) (c : Bool) (w : World) (x0 : 0 ≤ x) (x1 : x ≤ 15) :
    Calls Tryz.prog 122 #[.agg #[.int .i64 x, .bool c]] w fun e w' => e = .returned (.string (st (thT (x, c)))) ∧ Below w.heap.size w w' := by
  cases c
  · have hr : Hid (st (thT (x, false)) = st [hexU x]) := rfl
    go_enter Tryz.func122, Tryz.ntmps122
    go_wp2_with (go_at_call 121; refine (l04Digit_any _ _ x0 x1).mono ?_; rintro e w' ⟨rfl, rfl⟩)
    go_ret
    exact ⟨ret_str (by rw [hr.out]), (by repeat' (first | exact Below.refl _ _ | (with_reducible first | assumption | exact Nat.le_refl _ | refine Below.alloc ?_ ?_ _ | refine Below.setCell ?_ ?_ _ | refine Below.drew ?_ | refine below_drewN ?_ _) | refine Below.trans ?_ (Below.mono (by assumption) ?_) | exact Below.size (by assumption) | omega | go_size | (simp at *; omega)))⟩
  · have hr : Hid (st (thT (x, true)) = st [hexU x] ++ ⟨#[120]⟩) := by show _ = _; rw [show (⟨#[120]⟩ : ByteArray) = st [120] from rfl, st_append]; rfl
    go_enter Tryz.func122, Tryz.ntmps122
    go_wp2_with (go_at_call 121; refine (l04Digit_any _ _ x0 x1).mono ?_; rintro e w' ⟨rfl, rfl⟩)
    go_ret
    exact ⟨ret_str (by rw [hr.out]), (by repeat' (first | exact Below.refl _ _ | (with_reducible first | assumption | exact Nat.le_refl _ | refine Below.alloc ?_ ?_ _ | refine Below.setCell ?_ ?_ _ | refine Below.drew ?_ | refine below_drewN ?_ _) | refine Below.trans ?_ (Below.mono (by assumption) ?_) | exact Below.size (by assumption) | omega | go_size | (simp at *; omega)))⟩
theorem thT_len (t : Thr) : (thT t).length ≤ 2 := by unfold thT; split <;> simp
theorem str_bt (o : List UInt8) (a b : Thr) : st o ++ (⟨#[40]⟩ ++ st (thT a) ++ ⟨#[44]⟩ ++ st (thT b) ++ ⟨#[41]⟩) = st (o ++ btT (a, b)) := by
  rw [show (⟨#[40]⟩ : ByteArray) = st [40] from rfl, show (⟨#[44]⟩ : ByteArray) = st [44] from rfl, show (⟨#[41]⟩ : ByteArray) = st [41] from rfl]
  simp only [st_append]
  congr 1
  simp [btT]
theorem syT_step {p : List Beat} {k : Nat} {x : Beat} (h : p[k]? = some x) : syT (p.take (k + 1)) = syT (p.take k) ++ btT x := by
  rw [List.take_add_one, h]; exact syT_snoc _ _
set_option maxHeartbeats 1000000 in
theorem SyncText_any (A : Option Addr) (n c : Nat) (p : List Beat) (w : World) (hn : n ≤ 1099511627776) (hr : Rd w w.heap.size 4 A n (bts p)) :
    Calls Tryz.prog 28 #[.slice A n c] w fun e w' => e = .returned (.string (st (rSyncText p))) ∧ Below w.heap.size w w' := by
  have hlen := hr.bt_len
  have hV := ValidSync_any A n c p w hn hr
  cases hp : syOk p with
  | true =>
    rw [hp] at hV
    have hV := hid hV
    have hbd := hid (fun x (hx : x ∈ p) => beat_bd (syOk_b hp) hx)
    obtain ⟨h1, h6⟩ := syOk_bd hp
    rw [hlen] at h1 h6
    have HO : Hid (st (rSyncText p) = st (syT p)) := by show _ = _; rw [rSyncText, if_pos hp]
    have hst : Hid ((⟨#[]⟩ : ByteArray) = st (syT (p.take 0))) := rfl
    have hsp := hid (fun (k : Nat) (x : Beat) (h : p[k]? = some x) => syT_step h)
    have HR := hid hr
    have HL := hid hlen
    clear hr hp hlen
    go_enter Tryz.func28, Tryz.ntmps28
    go_wp2_with fail
    refine hV.out.mono ?_
    rintro e w1 ⟨rfl, hb1⟩
    go_wp2
    go_loopw [3, 11] (fun s i wr => Hid (∃ k : Nat, k ≤ n ∧ i = .int .i64 k ∧ s = .string (st (syT (p.take k))) ∧ Below w.heap.size w wr)) (fun _ i _ => n - (intOf i).toNat)
    case atStart => exact hid ⟨0, Nat.zero_le _, rfl, by rw [hst.out], hb1⟩
    case round =>
      obtain ⟨k, hk, rfl, rfl, hb0⟩ := hrel.out
      have hz := hb0.size
      clear hrel hb1
      by_cases hlt : k < n
      · obtain ⟨b, off, y, rfl, hb, hy, hd, c0, c1, c2, c3⟩ := (HR.out.below hb0 (Nat.le_refl _)).bt_at hlt
        obtain ⟨y0, y1, z0, z1⟩ := hbd.out y (List.mem_of_getElem? hy)
        obtain ⟨⟨q1, q2⟩, ⟨q3, q4⟩⟩ := y
        have HS := hid (hsp.out k _ hy)
        simp only at y0 y1 z0 z1
        have HB := str_bt (syT (p.take k)) (q1, q2) (q3, q4)
        have hol : (st (syT (p.take k))).size ≤ 42 := by
          rw [st_size]
          have h := syT_len (p.take k)
          rw [List.length_take] at h
          omega
        have hsa2 : (st (thT (q1, q2))).size ≤ 2 := by rw [st_size]; exact thT_len _
        have hsb2 : (st (thT (q3, q4))).size ≤ 2 := by rw [st_size]; exact thT_len _
        generalize syT (p.take k) = o at *
        obtain ⟨so, hso⟩ : ∃ so, st o = so := ⟨_, rfl⟩
        obtain ⟨sa, hsa⟩ : ∃ sa, st (thT (q1, q2)) = sa := ⟨_, rfl⟩
        obtain ⟨sb, hsb⟩ : ∃ sb, st (thT (q3, q4)) = sb := ⟨_, rfl⟩
        rw [hso] at HB hol ⊢
        rw [hsa] at HB hsa2
        rw [hsb] at HB hsb2
        have HB := hid HB
        have hbw : b < wr.heap.size := by omega
        have g1 : ¬ (9223372036854775807 < 1 + sa.size) := by omega
        have g2 : ¬ (9223372036854775807 < 1 + sa.size + 1) := by omega
        have g3 : ¬ (9223372036854775807 < 1 + sa.size + 1 + sb.size) := by omega
        have g4 : ¬ (9223372036854775807 < 1 + sa.size + 1 + sb.size + 1) := by omega
        have g5 : ¬ (9223372036854775807 < so.size + (1 + sa.size + 1 + sb.size + 1)) := by omega
        clear hy hd hso
        go_wp2
        go_region_held3 (fun w' => w'.cell? ⟨wr.heap.size, 0, none⟩ = some (.int .i64 q1) ∧ w'.cell? ⟨wr.heap.size, 1, none⟩ = some (.bool q2) ∧ w'.cell? ⟨wr.heap.size, 2, none⟩ = some (.int .i64 q3) ∧ w'.cell? ⟨wr.heap.size, 3, none⟩ = some (.bool q4)) (go_keep) ((go_at_call 62; refine (thText_any _ _ _ (by omega) (by omega)).mono ?_; rintro e w5 ⟨rfl, hb5⟩; have hk5 := (fun o => hb5.cell (p := ⟨wr.heap.size, o, none⟩) (by first | (simp; done) | (simp; omega) | omega)); have hz5 := Nat.lt_of_lt_of_le (show wr.heap.size < _ by first | (simp; done) | (simp; omega) | omega) hb5.size))
        all_goals
          clear g1 g2 g3 g4 g5
          go_wp2
          go_roundw
          case rel => exact hid ⟨k + 1, by omega, by go_num, by rw [HS.out], (by repeat' (first | exact Below.refl _ _ | (with_reducible first | assumption | exact Nat.le_refl _ | refine Below.alloc ?_ ?_ _ | refine Below.setCell ?_ ?_ _ | refine Below.drew ?_ | refine below_drewN ?_ _) | refine Below.trans ?_ (Below.mono (by assumption) ?_) | exact Below.size (by assumption) | omega | go_size | (simp at *; omega)))⟩
          case measure => simp [intOf]; omega
      · have hkn : k = n := by omega
        have HE : Hid (st (rSyncText p) = st (syT (p.take k))) := by show _ = _; rw [HO.out, List.take_of_length_le (by rw [HL.out]; omega)]
        clear hkn
        go_wp2
        go_ret
        exact ⟨ret_str HE.out.symm, hb0⟩
  | false =>
    rw [hp] at hV
    have hV := hid hV
    have HO : Hid (st (rSyncText p) = ⟨#[]⟩) := by show _ = _; rw [rSyncText, if_neg (by rw [hp]; decide)]; rfl
    clear hr hp hlen
    go_enter Tryz.func28, Tryz.ntmps28
    go_wp2_with fail
    refine hV.out.mono ?_
    rintro e w1 ⟨rfl, hb1⟩
    go_wp2
    go_ret
    exact ⟨ret_str HO.out.symm, (by repeat' (first | exact Below.refl _ _ | (with_reducible first | assumption | exact Nat.le_refl _ | refine Below.alloc ?_ ?_ _ | refine Below.setCell ?_ ?_ _ | refine Below.drew ?_ | refine below_drewN ?_ _) | refine Below.trans ?_ (Below.mono (by assumption) ?_) | exact Below.size (by assumption) | omega | go_size | (simp at *; omega)))⟩
set_option maxHeartbeats 1000000 in
theorem l05Text_any (A : Option Addr) (n c : Nat) (p : List Beat) (w : World) (hp : beatsOk p = true) (hr : Rd w w.heap.size 4 A n (bts p)) :
    Calls Tryz.prog 90 #[.slice A n c] w fun e w' => e = .returned (.string (st (syT p))) ∧ Below w.heap.size w w' := by
  have hlen := hr.bt_len
  have hbd := hid (fun x (hx : x ∈ p) => beat_bd hp hx)
  obtain ⟨_, h1, h6⟩ := beatsOk_iff.1 hp
  rw [hlen] at h1 h6
  have hst : Hid ((⟨#[]⟩ : ByteArray) = st (syT (p.take 0))) := rfl
  have hsp := hid (fun (k : Nat) (x : Beat) (h : p[k]? = some x) => syT_step h)
  have HR := hid hr
  have HL := hid hlen
  clear hr hp hlen
  go_enter Tryz.func90, Tryz.ntmps90
  go_wp2
  go_loopw [3, 4] (fun s i wr => Hid (∃ k : Nat, k ≤ n ∧ i = .int .i64 k ∧ s = .string (st (syT (p.take k))) ∧ Below w.heap.size w wr)) (fun _ i _ => n - (intOf i).toNat)
  case atStart => exact hid ⟨0, Nat.zero_le _, rfl, by rw [hst.out], (by repeat' (first | exact Below.refl _ _ | (with_reducible first | assumption | exact Nat.le_refl _ | refine Below.alloc ?_ ?_ _ | refine Below.setCell ?_ ?_ _ | refine Below.drew ?_ | refine below_drewN ?_ _) | refine Below.trans ?_ (Below.mono (by assumption) ?_) | exact Below.size (by assumption) | omega | go_size | (simp at *; omega)))⟩
  case round =>
    obtain ⟨k, hk, rfl, rfl, hb0⟩ := hrel.out
    have hz := hb0.size
    clear hrel
    by_cases hlt : k < n
    · obtain ⟨b, off, y, rfl, hb, hy, hd, c0, c1, c2, c3⟩ := (HR.out.below hb0 (Nat.le_refl _)).bt_at hlt
      obtain ⟨y0, y1, z0, z1⟩ := hbd.out y (List.mem_of_getElem? hy)
      obtain ⟨⟨q1, q2⟩, ⟨q3, q4⟩⟩ := y
      have HS := hid (hsp.out k _ hy)
      simp only at y0 y1 z0 z1
      have HB := str_bt (syT (p.take k)) (q1, q2) (q3, q4)
      have hol : (st (syT (p.take k))).size ≤ 42 := by
        rw [st_size]
        have h := syT_len (p.take k)
        rw [List.length_take] at h
        omega
      have hsa2 : (st (thT (q1, q2))).size ≤ 2 := by rw [st_size]; exact thT_len _
      have hsb2 : (st (thT (q3, q4))).size ≤ 2 := by rw [st_size]; exact thT_len _
      generalize syT (p.take k) = o at *
      obtain ⟨so, hso⟩ : ∃ so, st o = so := ⟨_, rfl⟩
      obtain ⟨sa, hsa⟩ : ∃ sa, st (thT (q1, q2)) = sa := ⟨_, rfl⟩
      obtain ⟨sb, hsb⟩ : ∃ sb, st (thT (q3, q4)) = sb := ⟨_, rfl⟩
      rw [hso] at HB hol ⊢
      rw [hsa] at HB hsa2
      rw [hsb] at HB hsb2
      have HB := hid HB
      have hbw : b < wr.heap.size := by omega
      have hki : (k : Int) < (n : Int) := by omega
      have hk0 : (0 : Int) ≤ (k : Int) := by omega
      have g1 : ¬ (9223372036854775807 < 1 + sa.size) := by omega
      have g2 : ¬ (9223372036854775807 < 1 + sa.size + 1) := by omega
      have g3 : ¬ (9223372036854775807 < 1 + sa.size + 1 + sb.size) := by omega
      have g4 : ¬ (9223372036854775807 < 1 + sa.size + 1 + sb.size + 1) := by omega
      have g5 : ¬ (9223372036854775807 < so.size + (1 + sa.size + 1 + sb.size + 1)) := by omega
      clear hy hd hso
      go_wp2
      go_region_held3 (fun w' => w'.cell? ⟨b, off + k * 4, none⟩ = some (.int .i64 q1) ∧ w'.cell? ⟨b, off + k * 4 + 1, none⟩ = some (.bool q2) ∧ w'.cell? ⟨b, off + k * 4 + 2, none⟩ = some (.int .i64 q3) ∧ w'.cell? ⟨b, off + k * 4 + 3, none⟩ = some (.bool q4)) (go_keep) ((go_at_call 122; refine (l05One_any _ _ _ (by omega) (by omega)).mono ?_; rintro e w5 ⟨rfl, hb5⟩; have hk5 := (fun o => hb5.cell (p := ⟨b, o, none⟩) (by first | (simp; done) | (simp; omega) | omega)); have hz5 := Nat.lt_of_lt_of_le (show b < _ by first | (simp; done) | (simp; omega) | omega) hb5.size; have hz6 := Nat.le_trans (show wr.heap.size ≤ _ by first | exact Nat.le_refl _ | assumption | omega) hb5.size))
      all_goals
        clear g1 g2 g3 g4 g5
        go_wp2
        go_roundw
        case rel => exact hid ⟨k + 1, by omega, by go_num, by rw [HS.out], (by repeat' (first | exact Below.refl _ _ | (with_reducible first | assumption | exact Nat.le_refl _ | refine Below.alloc ?_ ?_ _ | refine Below.setCell ?_ ?_ _ | refine Below.drew ?_ | refine below_drewN ?_ _) | refine Below.trans ?_ (Below.mono (by assumption) ?_) | exact Below.size (by assumption) | omega | go_size | (simp at *; omega)))⟩
        case measure => simp [intOf]; omega
    · have hkn : k = n := by omega
      have HE : Hid (st (syT p) = st (syT (p.take k))) := by show _ = _; rw [List.take_of_length_le (by rw [HL.out]; omega)]
      clear hkn
      go_wp2
      go_ret
      exact ⟨ret_str HE.out.symm, hb0⟩
end Go.Proofs.YtgphkfnobmponaaGreat
