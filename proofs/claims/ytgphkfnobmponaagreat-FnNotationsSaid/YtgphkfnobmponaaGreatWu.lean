/- The text: Wu. -/
import Derived.Test.YtgphkfnobmponaaGreatG27
import Derived.Test.YtgphkfnobmponaaGreatYy
import Derived.Test.YtgphkfnobmponaaGreatG24
/- Texts of patterns whose throws are digits, valid or not. Printed by gen_weak.py. -/
namespace Go.Proofs.YtgphkfnobmponaaGreat
open Go.RowKit
set_option linter.unusedVariables false

def mBd (rows : List (List Int)) : Prop := ∀ r ∈ rows, (1 ≤ r.length ∧ r.length ≤ 4) ∧ ∀ x ∈ r, 0 ≤ x ∧ x ≤ 15
def yBd (y : List Beat) : Prop := ∀ x ∈ y, 0 ≤ x.1.1 ∧ x.1.1 ≤ 14 ∧ 0 ≤ x.2.1 ∧ x.2.1 ≤ 14
def qBd (q : List PT) : Prop := ∀ x ∈ q, 0 ≤ x.1 ∧ x.1 ≤ 15
set_option maxRecDepth 100000 in
set_option maxHeartbeats 4000000 in
theorem l04Text_b (g o : Nat) (A : Option Addr) (n c : Nat) (rows : List (List Int)) (w : World) (h12 : n ≤ 13) (hst : mBd rows) (hx : Bo w g o #[.slice A n c]) (hr : RdG w w.heap.size A n rows) :
    Calls Tryz.prog 89 #[.pointer (some ⟨g, o, none⟩)] w fun e w' => e = .returned (.string (st (mT rows))) ∧ w = w' := by
  have hlen := hr.len
  have hgl := hx.lt
  have HST := hid hst
  have HMT := hid (fun (k : Nat) => mT_len (rows.take k) (fun r hr => (hst r (List.mem_of_mem_take hr)).1.2))
  have c0 : w.cell? ⟨g, o, none⟩ = some (.slice A n c) := hx.cell 0
  have HC0 := hid c0
  have hst0 : Hid ((⟨#[]⟩ : ByteArray) = st (mT (rows.take 0))) := rfl
  have HR := hid hr
  have HL := hid hlen
  clear hr hlen hx hst
  go_enter Tryz.func89, Tryz.ntmps89
  go_wp2
  clear c0
  go_loopw [3, 4] (fun s i wr => Hid (∃ k : Nat, k ≤ n ∧ i = .int .i64 k ∧ s = .string (st (mT (rows.take k))) ∧ wr = w)) (fun _ i _ => n - (intOf i).toNat)
  case atStart => exact hid ⟨0, Nat.zero_le _, rfl, by rw [hst0.out], rfl⟩
  case round =>
    obtain ⟨k, hk, rfl, rfl, rfl⟩ := hrel.out
    clear hrel hst0
    have a0 := HC0.out
    have hol : (mT (rows.take k)).length ≤ 6 * k := by
      have := HMT.out k
      rw [List.length_take] at this; omega
    by_cases hlt : k < n
    · obtain ⟨b, off, row, Ai, ci, rfl, hb, hx, hd, hc, hrow⟩ := HR.out.at_ hlt
      have hcc := hc
      have hm := HST.out row (List.mem_of_getElem? hx)
      have hl4 := hm.1
      have HBR := hid (fun (t : Int) (ht : t ∈ row) => hm.2 t ht)
      have hT0 : mT (rows.take (k + 1)) = mT (rows.take k) ++ rowT row := mT_step hx
      have HROW := hid hrow
      by_cases hl1 : 1 < row.length
      · have h1I : (1 : Int) < (row.length : Int) := by omega
        have HT : mT (rows.take (k + 1)) = ((mT (rows.take k) ++ [91]) ++ row.map hexU) ++ [93] := by rw [hT0, rowT, if_pos hl1]; simp
        obtain ⟨o0, ho0⟩ : ∃ o0, mT (rows.take k) ++ [91] = o0 := ⟨_, rfl⟩
        have hs0 : o0.length ≤ 6 * k + 1 := by rw [← ho0]; rw [List.length_append]; simp; omega
        rw [ho0] at HT
        have HTE := hid HT
        have HST0 : Hid (st (mT (rows.take k)) ++ ⟨#[91]⟩ = st o0) := by show _ = _; rw [← ho0]; exact st_append _ _
        have hsz : (st (mT (rows.take k))).size ≤ 6 * k := by rw [st_size]; exact hol
        clear hx hd hm hrow hT0 HT ho0 hc
        obtain ⟨so, hso⟩ : ∃ so, st (mT (rows.take k)) = so := ⟨_, rfl⟩
        rw [hso] at HST0 hsz ⊢
        clear hso
        go_wp2
        clear a0
        go_loopw [3, 6] (fun s i w3 => Hid (∃ (j : Nat) (o3 : List UInt8), j ≤ row.length ∧ i = .int .i64 j ∧ s = .string (st o3) ∧ Hid (o3 = o0 ++ (row.take j).map hexU) ∧ o3.length ≤ 6 * k + 1 + j ∧ w3 = wr)) (fun _ i _ => row.length - (intOf i).toNat)
        case atStart => exact hid ⟨0, o0, Nat.zero_le _, rfl, by rw [← HST0.out], by show _ = _; simp, hs0, rfl⟩
        case round =>
          obtain ⟨j, o3, hj, rfl, rfl, hT, hol3, rfl⟩ := hrel.out
          clear hrel hs0 HST0
          have hsz3 : (st o3).size ≤ 6 * k + 1 + j := by rw [st_size]; exact hol3
          by_cases hjl : j < row.length
          · obtain ⟨bb, ofb, x, rfl, hbb, hxj, hdj, hcj⟩ := HROW.out.at_ hjl
            obtain ⟨x0, x1⟩ := HBR.out x (List.mem_of_getElem? hxj)
            have hst := mapU_step hxj
            have HZ : Hid (st (o3 ++ [hexU x]) = st o3 ++ st [hexU x]) := (st_append _ _).symm
            have HZ2 : Hid (o3 ++ [hexU x] = o0 ++ (row.take (j + 1)).map hexU) := by show _ = _; rw [hst, ← List.append_assoc, ← hT.out]
            have hone : (st [hexU x]).size = 1 := by rw [st_size]; rfl
            have hD := hid (fun w1 => l04Digit_any x w1 x0 x1)
            generalize hexU x = u at *
            obtain ⟨s3, hs3⟩ : ∃ s3, st o3 = s3 := ⟨_, rfl⟩
            rw [hs3] at HZ hsz3 ⊢
            clear hxj hdj hst hT hs3
            go_wp2_with (go_at_call 121; refine (hD.out _).mono ?_; rintro e w' ⟨rfl, rfl⟩)
            go_roundw
            case rel => exact hid ⟨j + 1, o3 ++ [u], by omega, by go_num, by rw [HZ.out], HZ2, by rw [List.length_append]; simp; omega, by first | rfl | trivial⟩
            case measure => simp [intOf]; omega
          · have hjn : j = row.length := by omega
            have hT2 := hT.out
            rw [hjn, List.take_length] at hT2
            have HZ : Hid (st o3 ++ ⟨#[93]⟩ = st (mT (rows.take (k + 1)))) := by show _ = _; rw [HTE.out, ← hT2]; exact st_append _ _
            obtain ⟨s3, hs3⟩ : ∃ s3, st o3 = s3 := ⟨_, rfl⟩
            rw [hs3] at HZ hsz3 ⊢
            clear hT hT2 hjn HTE hs3
            go_wp2
            go_roundw
            case rel => exact hid ⟨k + 1, by omega, by go_num, by rw [← HZ.out], by first | rfl | trivial⟩
            case measure => simp [intOf]; omega
      · have h1I : ¬ (1 : Int) < (row.length : Int) := by omega
        have HT : mT (rows.take (k + 1)) = mT (rows.take k) ++ row.map hexU := by rw [hT0, rowT, if_neg hl1]
        obtain ⟨o0, ho0⟩ : ∃ o0, mT (rows.take k) = o0 := ⟨_, rfl⟩
        have hs0 : o0.length ≤ 6 * k + 1 := by rw [← ho0]; omega
        rw [ho0] at HT
        have HTE := hid HT
        have HST0 : Hid (st (mT (rows.take k)) = st o0) := by show _ = _; rw [← ho0]
        have hsz : (st (mT (rows.take k))).size ≤ 6 * k := by rw [st_size]; exact hol
        clear hx hd hm hrow hT0 HT ho0 hc
        obtain ⟨so, hso⟩ : ∃ so, st (mT (rows.take k)) = so := ⟨_, rfl⟩
        rw [hso] at HST0 hsz ⊢
        clear hso
        go_wp2
        clear a0
        go_loopw [3, 6] (fun s i w3 => Hid (∃ (j : Nat) (o3 : List UInt8), j ≤ row.length ∧ i = .int .i64 j ∧ s = .string (st o3) ∧ Hid (o3 = o0 ++ (row.take j).map hexU) ∧ o3.length ≤ 6 * k + 1 + j ∧ w3 = wr)) (fun _ i _ => row.length - (intOf i).toNat)
        case atStart => exact hid ⟨0, o0, Nat.zero_le _, rfl, by rw [← HST0.out], by show _ = _; simp, hs0, rfl⟩
        case round =>
          obtain ⟨j, o3, hj, rfl, rfl, hT, hol3, rfl⟩ := hrel.out
          clear hrel hs0 HST0
          have hsz3 : (st o3).size ≤ 6 * k + 1 + j := by rw [st_size]; exact hol3
          by_cases hjl : j < row.length
          · obtain ⟨bb, ofb, x, rfl, hbb, hxj, hdj, hcj⟩ := HROW.out.at_ hjl
            obtain ⟨x0, x1⟩ := HBR.out x (List.mem_of_getElem? hxj)
            have hst := mapU_step hxj
            have HZ : Hid (st (o3 ++ [hexU x]) = st o3 ++ st [hexU x]) := (st_append _ _).symm
            have HZ2 : Hid (o3 ++ [hexU x] = o0 ++ (row.take (j + 1)).map hexU) := by show _ = _; rw [hst, ← List.append_assoc, ← hT.out]
            have hone : (st [hexU x]).size = 1 := by rw [st_size]; rfl
            have hD := hid (fun w1 => l04Digit_any x w1 x0 x1)
            generalize hexU x = u at *
            obtain ⟨s3, hs3⟩ : ∃ s3, st o3 = s3 := ⟨_, rfl⟩
            rw [hs3] at HZ hsz3 ⊢
            clear hxj hdj hst hT hs3
            go_wp2_with (go_at_call 121; refine (hD.out _).mono ?_; rintro e w' ⟨rfl, rfl⟩)
            go_roundw
            case rel => exact hid ⟨j + 1, o3 ++ [u], by omega, by go_num, by rw [HZ.out], HZ2, by rw [List.length_append]; simp; omega, by first | rfl | trivial⟩
            case measure => simp [intOf]; omega
          · have hjn : j = row.length := by omega
            have hT2 := hT.out
            rw [hjn, List.take_length] at hT2
            have HZ : Hid (st o3 = st (mT (rows.take (k + 1)))) := by show _ = _; rw [HTE.out, ← hT2]
            obtain ⟨s3, hs3⟩ : ∃ s3, st o3 = s3 := ⟨_, rfl⟩
            rw [hs3] at HZ hsz3 ⊢
            clear hT hT2 hjn HTE hs3
            go_wp2
            go_roundw
            case rel => exact hid ⟨k + 1, by omega, by go_num, by rw [← HZ.out], by first | rfl | trivial⟩
            case measure => simp [intOf]; omega
    · have HZ : Hid (st (mT rows) = st (mT (rows.take k))) := by show _ = _; rw [List.take_of_length_le (by rw [HL.out]; omega)]
      go_wp2
      go_ret
      exact ⟨ret_str HZ.out.symm, by first | rfl | trivial⟩
set_option maxHeartbeats 1000000 in
theorem l05Text_b (A : Option Addr) (n c : Nat) (p : List Beat) (w : World) (h6 : n ≤ 6) (hp : yBd p) (hr : Rd w w.heap.size 4 A n (bts p)) :
    Calls Tryz.prog 90 #[.slice A n c] w fun e w' => e = .returned (.string (st (syT p))) ∧ Below w.heap.size w w' := by
  have hlen := hr.bt_len
  have hbd := hid (fun x (hx : x ∈ p) => hp x hx)
  have hst : Hid ((⟨#[]⟩ : ByteArray) = st (syT (p.take 0))) := rfl
  have hsp := hid (fun (k : Nat) (x : Beat) (h : p[k]? = some x) => syT_step h)
  have HR := hid hr
  have HL := hid hlen
  clear hr hp hlen
  go_enter Tryz.func90, Tryz.ntmps90
  go_wp2
  go_loopw [3, 4] (fun s i wr => Hid (∃ k : Nat, k ≤ n ∧ i = .int .i64 k ∧ s = .string (st (syT (p.take k))) ∧ Below w.heap.size w wr)) (fun _ i _ => n - (intOf i).toNat)
  case atStart => exact hid ⟨0, Nat.zero_le _, rfl, by rw [hst.out], (by repeat' (first | exact Below.refl _ _ | (with_reducible first | assumption | exact Nat.le_refl _ | refine Below.alloc ?_ ?_ _ | refine Below.setCell ?_ ?_ _ | refine Below.drew ?_ | refine below_drewN ?_ _) | refine Below.trans ?_ (Below.mono (by assumption) ?_) | exact Below.size (by assumption) | omega | go_size | (simp at *; omega)))⟩
  case round =>
    obtain ⟨k, hk, rfl, rfl, hb0⟩ := hrel.out
    have hz := hb0.size
    clear hrel
    by_cases hlt : k < n
    · obtain ⟨b, off, y, rfl, hb, hy, hd, c0, c1, c2, c3⟩ := (HR.out.below hb0 (Nat.le_refl _)).bt_at hlt
      obtain ⟨y0, y1, z0, z1⟩ := hbd.out y (List.mem_of_getElem? hy)
      obtain ⟨⟨q1, q2⟩, ⟨q3, q4⟩⟩ := y
      have HS := hid (hsp.out k _ hy)
      simp only at y0 y1 z0 z1
      have HB := str_bt (syT (p.take k)) (q1, q2) (q3, q4)
      have hol : (st (syT (p.take k))).size ≤ 42 := by
        rw [st_size]
        have h := syT_len (p.take k)
        rw [List.length_take] at h
        omega
      have hsa2 : (st (thT (q1, q2))).size ≤ 2 := by rw [st_size]; exact thT_len _
      have hsb2 : (st (thT (q3, q4))).size ≤ 2 := by rw [st_size]; exact thT_len _
      generalize syT (p.take k) = o at *
      obtain ⟨so, hso⟩ : ∃ so, st o = so := ⟨_, rfl⟩
      obtain ⟨sa, hsa⟩ : ∃ sa, st (thT (q1, q2)) = sa := ⟨_, rfl⟩
      obtain ⟨sb, hsb⟩ : ∃ sb, st (thT (q3, q4)) = sb := ⟨_, rfl⟩
      rw [hso] at HB hol ⊢
      rw [hsa] at HB hsa2
      rw [hsb] at HB hsb2
      have HB := hid HB
      have hbw : b < wr.heap.size := by omega
      have hki : (k : Int) < (n : Int) := by omega
      have hk0 : (0 : Int) ≤ (k : Int) := by omega
      have g1 : ¬ (9223372036854775807 < 1 + sa.size) := by omega
      have g2 : ¬ (9223372036854775807 < 1 + sa.size + 1) := by omega
      have g3 : ¬ (9223372036854775807 < 1 + sa.size + 1 + sb.size) := by omega
      have g4 : ¬ (9223372036854775807 < 1 + sa.size + 1 + sb.size + 1) := by omega
      have g5 : ¬ (9223372036854775807 < so.size + (1 + sa.size + 1 + sb.size + 1)) := by omega
      clear hy hd hso
      go_wp2
      go_region_held3 (fun w' => w'.cell? ⟨b, off + k * 4, none⟩ = some (.int .i64 q1) ∧ w'.cell? ⟨b, off + k * 4 + 1, none⟩ = some (.bool q2) ∧ w'.cell? ⟨b, off + k * 4 + 2, none⟩ = some (.int .i64 q3) ∧ w'.cell? ⟨b, off + k * 4 + 3, none⟩ = some (.bool q4)) (go_keep) ((go_at_call 122; refine (l05One_any _ _ _ (by omega) (by omega)).mono ?_; rintro e w5 ⟨rfl, hb5⟩; have hk5 := (fun o => hb5.cell (p := ⟨b, o, none⟩) (by first | (simp; done) | (simp; omega) | omega)); have hz5 := Nat.lt_of_lt_of_le (show b < _ by first | (simp; done) | (simp; omega) | omega) hb5.size; have hz6 := Nat.le_trans (show wr.heap.size ≤ _ by first | exact Nat.le_refl _ | assumption | omega) hb5.size))
      all_goals
        clear g1 g2 g3 g4 g5
        go_wp2
        go_roundw
        case rel => exact hid ⟨k + 1, by omega, by go_num, by rw [HS.out], (by repeat' (first | exact Below.refl _ _ | (with_reducible first | assumption | exact Nat.le_refl _ | refine Below.alloc ?_ ?_ _ | refine Below.setCell ?_ ?_ _ | refine Below.drew ?_ | refine below_drewN ?_ _) | refine Below.trans ?_ (Below.mono (by assumption) ?_) | exact Below.size (by assumption) | omega | go_size | (simp at *; omega)))⟩
        case measure => simp [intOf]; omega
    · have hkn : k = n := by omega
      have HE : Hid (st (syT p) = st (syT (p.take k))) := by show _ = _; rw [List.take_of_length_le (by rw [HL.out]; omega)]
      clear hkn
      go_wp2
      go_ret
      exact ⟨ret_str HE.out.symm, hb0⟩
set_option maxHeartbeats 1000000 in
theorem l06Text_b (A : Option Addr) (n c : Nat) (p : List PT) (w : World) (hn : n ≤ 8) (hp : qBd p) (hr : Rd w w.heap.size 2 A n (ths p)) :
    Calls Tryz.prog 123 #[.slice A n c] w fun e w' => e = .returned (.string (st (psTx p))) ∧ Below w.heap.size w w' := by
  have hlen := hr.th_len
  have hbd := hid (fun x (hx : x ∈ p) => hp x hx)
  have hst : Hid ((⟨#[]⟩ : ByteArray) = st (psTx (p.take 0))) := rfl
  have hsp := hid (fun (k : Nat) (x : PT) (h : p[k]? = some x) => psTx_step h)
  have hz : ({ data := #[48, 49, 50, 51, 52, 53, 54, 55, 56, 57, 97, 98, 99, 100, 101, 102] } : ByteArray).size = 16 := rfl
  have HR := hid hr
  have HL := hid hlen
  clear hr hp hlen
  go_enter Tryz.func123, Tryz.ntmps123
  go_wp2
  go_loopw [3, 4] (fun s i wr => Hid (∃ k : Nat, k ≤ n ∧ i = .int .i64 k ∧ s = .string (st (psTx (p.take k))) ∧ Below w.heap.size w wr)) (fun _ i _ => n - (intOf i).toNat)
  case atStart => exact hid ⟨0, Nat.zero_le _, rfl, by rw [hst.out], (by repeat' (first | exact Below.refl _ _ | (with_reducible first | assumption | exact Nat.le_refl _ | refine Below.alloc ?_ ?_ _ | refine Below.setCell ?_ ?_ _ | refine Below.drew ?_ | refine below_drewN ?_ _) | refine Below.trans ?_ (Below.mono (by assumption) ?_) | exact Below.size (by assumption) | omega | go_size | (simp at *; omega)))⟩
  case round =>
    obtain ⟨k, hk, rfl, rfl, hb0⟩ := hrel.out
    have hzz := hb0.size
    clear hrel
    by_cases hlt : k < n
    · obtain ⟨b, off, y, rfl, hb, hy, hd, c0, c1⟩ := (HR.out.below hb0 (Nat.le_refl _)).th_at hlt
      obtain ⟨y0, y1⟩ := hbd.out y (List.mem_of_getElem? hy)
      obtain ⟨v, q⟩ := y
      have hsp2 := hsp.out k _ hy
      simp only at y0 y1
      obtain ⟨V, rfl⟩ := Int.eq_ofNat_of_zero_le y0
      have he := hexS_ext (n := V) (by omega)
      have h1 : (V : Int) ≤ (V : Int) + 1 := by omega
      have h2 : (V : Int) + 1 ≤ 16 := by omega
      have hol : (st (psTx (p.take k))).size ≤ 24 := by
        rw [st_size]
        have h := psTx_len (p.take k)
        rw [List.length_take] at h
        omega
      obtain ⟨o2, ho2⟩ : ∃ o2, psTx (p.take (k + 1)) = o2 := ⟨_, rfl⟩
      rw [ho2] at hsp2
      have HO2 := hid ho2
      clear ho2
      generalize psTx (p.take k) = o at *
      obtain ⟨so, hso⟩ : ∃ so, st o = so := ⟨_, rfl⟩
      have hone : (st [hexU (V : Int)]).size = 1 := by rw [st_size]; rfl
      have hbw : b < wr.heap.size := by omega
      have e32 : (⟨#[32]⟩ : ByteArray) = st [32] := rfl
      have e112 : (⟨#[112]⟩ : ByteArray) = st [112] := rfl
      have s32 : (⟨#[32]⟩ : ByteArray).size = 1 := rfl
      have s112 : (⟨#[112]⟩ : ByteArray).size = 1 := rfl
      by_cases hk0 : k = 0
      · subst hk0
        rw [if_pos rfl] at hsp2
        simp only [Nat.zero_mul, Nat.add_zero] at c0 c1
        cases q
        · have HS : Hid (st o2 = so ++ st [hexU (V : Int)]) := by show _ = _; rw [hsp2, ← hso, st_append]; rfl
          rw [hso] at hol ⊢
          clear hy hd hso hsp2 e32 e112
          go_wp2_with (go_at_call 121; refine (l04Digit_any _ _ (by omega) (by omega)).mono ?_; rintro e w' ⟨rfl, rfl⟩)
          go_roundw
          case rel => exact hid ⟨_, by first | exact (show k + 1 ≤ n by omega) | exact (show 0 + 1 ≤ n by omega), by go_num, by rw [HO2.out, HS.out], (by repeat' (first | exact Below.refl _ _ | (with_reducible first | assumption | exact Nat.le_refl _ | refine Below.alloc ?_ ?_ _ | refine Below.setCell ?_ ?_ _ | refine Below.drew ?_ | refine below_drewN ?_ _) | refine Below.trans ?_ (Below.mono (by assumption) ?_) | exact Below.size (by assumption) | omega | go_size | (simp at *; omega)))⟩
          case measure => simp [intOf]; omega
        · have HS : Hid (st o2 = so ++ st [hexU (V : Int)] ++ ⟨#[112]⟩) := by show _ = _; rw [hsp2, ← hso, e112, st_append, st_append]; simp [ptT]
          rw [hso] at hol ⊢
          clear hy hd hso hsp2 e32 e112
          go_wp2_with (go_at_call 121; refine (l04Digit_any _ _ (by omega) (by omega)).mono ?_; rintro e w' ⟨rfl, rfl⟩)
          go_roundw
          case rel => exact hid ⟨_, by first | exact (show k + 1 ≤ n by omega) | exact (show 0 + 1 ≤ n by omega), by go_num, by rw [HO2.out, HS.out], (by repeat' (first | exact Below.refl _ _ | (with_reducible first | assumption | exact Nat.le_refl _ | refine Below.alloc ?_ ?_ _ | refine Below.setCell ?_ ?_ _ | refine Below.drew ?_ | refine below_drewN ?_ _) | refine Below.trans ?_ (Below.mono (by assumption) ?_) | exact Below.size (by assumption) | omega | go_size | (simp at *; omega)))⟩
          case measure => simp [intOf]; omega
      · have hgt : (0 : Int) < (k : Int) := by omega
        rw [if_neg hk0] at hsp2
        cases q
        · have HS : Hid (st o2 = so ++ ⟨#[32]⟩ ++ st [hexU (V : Int)]) := by show _ = _; rw [hsp2, ← hso, e32, st_append, st_append]; simp [ptT]
          rw [hso] at hol ⊢
          clear hy hd hso hsp2 e32 e112
          go_wp2_with (go_at_call 121; refine (l04Digit_any _ _ (by omega) (by omega)).mono ?_; rintro e w' ⟨rfl, rfl⟩)
          go_roundw
          case rel => exact hid ⟨_, by first | exact (show k + 1 ≤ n by omega) | exact (show 0 + 1 ≤ n by omega), by go_num, by rw [HO2.out, HS.out], (by repeat' (first | exact Below.refl _ _ | (with_reducible first | assumption | exact Nat.le_refl _ | refine Below.alloc ?_ ?_ _ | refine Below.setCell ?_ ?_ _ | refine Below.drew ?_ | refine below_drewN ?_ _) | refine Below.trans ?_ (Below.mono (by assumption) ?_) | exact Below.size (by assumption) | omega | go_size | (simp at *; omega)))⟩
          case measure => simp [intOf]; omega
        · have HS : Hid (st o2 = so ++ ⟨#[32]⟩ ++ st [hexU (V : Int)] ++ ⟨#[112]⟩) := by show _ = _; rw [hsp2, ← hso, e32, e112, st_append, st_append, st_append]; simp [ptT]
          rw [hso] at hol ⊢
          clear hy hd hso hsp2 e32 e112
          go_wp2_with (go_at_call 121; refine (l04Digit_any _ _ (by omega) (by omega)).mono ?_; rintro e w' ⟨rfl, rfl⟩)
          go_roundw
          case rel => exact hid ⟨_, by first | exact (show k + 1 ≤ n by omega) | exact (show 0 + 1 ≤ n by omega), by go_num, by rw [HO2.out, HS.out], (by repeat' (first | exact Below.refl _ _ | (with_reducible first | assumption | exact Nat.le_refl _ | refine Below.alloc ?_ ?_ _ | refine Below.setCell ?_ ?_ _ | refine Below.drew ?_ | refine below_drewN ?_ _) | refine Below.trans ?_ (Below.mono (by assumption) ?_) | exact Below.size (by assumption) | omega | go_size | (simp at *; omega)))⟩
          case measure => simp [intOf]; omega
    · have hkn : k = n := by omega
      have HE : Hid (st (psTx p) = st (psTx (p.take k))) := by show _ = _; rw [List.take_of_length_le (by rw [HL.out]; omega)]
      clear hkn
      go_wp2
      go_ret
      exact ⟨ret_str HE.out.symm, hb0⟩
set_option maxRecDepth 100000 in
set_option maxHeartbeats 1000000 in
theorem l06Both_b (g o : Nat) (A B : Option Addr) (n c m d : Nat) (p : Psg) (w : World) (h8 : n ≤ 8) (h9 : m ≤ 8) (ha : qBd p.1) (hb : qBd p.2) (hx : Bo w g o #[.slice A n c, .slice B m d]) (hr : Rd w w.heap.size 2 A n (ths p.1)) (hs : Rd w w.heap.size 2 B m (ths p.2)) :
    Calls Tryz.prog 91 #[.pointer (some ⟨g, o, none⟩)] w fun e w' => e = .returned (.string (st (paT p))) ∧ Below w.heap.size w w' := by
  have l1 := hr.th_len
  have l2 := hs.th_len
  have hT1 := hid (fun (w1 : World) (b : Below w.heap.size w w1) => l06Text_b A n c p.1 w1 (by omega) ha ((hr.below b (Nat.le_refl _)).more b.size))
  have hT2 := hid (fun (w1 : World) (b : Below w.heap.size w w1) => l06Text_b B m d p.2 w1 (by omega) hb ((hs.below b (Nat.le_refl _)).more b.size))
  have hq1 : (st (psTx p.1)).size ≤ 24 := by rw [st_size]; have := psTx_len p.1; omega
  have hq2 : (st (psTx p.2)).size ≤ 24 := by rw [st_size]; have := psTx_len p.2; omega
  have HO : Hid (st (paT p) = (⟨#[60]⟩ : ByteArray) ++ st (psTx p.1) ++ ⟨#[124]⟩ ++ st (psTx p.2) ++ ⟨#[62]⟩) := by show _ = _; rw [st60, paT]
  generalize st (psTx p.1) = sa at *
  generalize st (psTx p.2) = sb at *
  have g1 : ¬ (9223372036854775807 < 1 + sa.size) := by omega
  have g2 : ¬ (9223372036854775807 < 1 + sa.size + 1) := by omega
  have g3 : ¬ (9223372036854775807 < 1 + sa.size + 1 + sb.size) := by omega
  have g4 : ¬ (9223372036854775807 < 1 + sa.size + 1 + sb.size + 1) := by omega
  have hgl := hx.lt
  have c0 := hx.cell 0
  have c1 := hx.cell 1
  replace c0 : w.cell? ⟨g, o, none⟩ = some (.slice A n c) := c0
  replace c1 : w.cell? ⟨g, o + 1, none⟩ = some (.slice B m d) := c1
  have hS := hid (fun (w9 : World) (b : Below w.heap.size w w9) => (⟨b, (b.cell (p := ⟨g, o, none⟩) hgl).trans c0, (b.cell (p := ⟨g, o + 1, none⟩) hgl).trans c1⟩ : Below w.heap.size w w9 ∧ w9.cell? ⟨g, o, none⟩ = some (.slice A n c) ∧ w9.cell? ⟨g, o + 1, none⟩ = some (.slice B m d)))
  have hBd : Below w.heap.size w w.drew := (by repeat' (first | exact Below.refl _ _ | (with_reducible first | assumption | exact Nat.le_refl _ | refine Below.alloc ?_ ?_ _ | refine Below.setCell ?_ ?_ _ | refine Below.drew ?_ | refine below_drewN ?_ _) | refine Below.trans ?_ (Below.mono (by assumption) ?_) | exact Below.size (by assumption) | omega | go_size | (simp at *; omega)))
  clear hr hs h8 h9 ha hb l1 l2 hx
  go_enter Tryz.func91, Tryz.ntmps91
  go_wp2
  go_region_held3 (fun w' => Below w.heap.size w w' ∧ w'.cell? ⟨g, o, none⟩ = some (.slice A n c) ∧ w'.cell? ⟨g, o + 1, none⟩ = some (.slice B m d)) (with_reducible exact hS.out _ (by assumption)) (first | (go_at_call 123; with_reducible refine (hT1.out _ (by assumption)).mono ?_; rintro e w5 ⟨rfl, hb5⟩; have hB5 := bchain (show Below w.heap.size w _ by assumption) hb5) | (go_at_call 123; with_reducible refine (hT2.out _ (by assumption)).mono ?_; rintro e w5 ⟨rfl, hb5⟩; have hB5 := bchain (show Below w.heap.size w _ by assumption) hb5))
  all_goals
    go_wp2
    go_ret
    exact ⟨ret_str HO.out.symm, by assumption⟩
end Go.Proofs.YtgphkfnobmponaaGreat
