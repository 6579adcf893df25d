/- Contracts of OrbitProps, and the walk of its law. -/
import Derived.Test.YthbbfhlpoinenaaOb
import Derived.Test.YthbbfhlpoinenaaOr
import Derived.Test.YthbbfhlpoinenaaPu
namespace Go.Proofs.Ythbbfhlpoinenaa
open Go.RowKit
set_option linter.unusedVariables false

theorem l13Props_any (A : Option Addr) (n c : Nat) (p : List Int) (A2 : Option Addr) (m c2 : Nat) (row : List Int) (w : World) (hp : okP p = true) (hm : m ≤ 12) (hb : ∀ x ∈ row, 0 ≤ x ∧ x < p.length) (hr : Rd w w.heap.size 1 A n (ints p)) (hr2 : Rd w w.heap.size 1 A2 m (ints row)) :
    Calls Try.prog 67 #[.slice A n c, .slice A2 m c2] w fun e w' => e = .returned (.int .i64 (orbProp p row)) ∧ w = w' := by
  have hlen := hr.len
  have hlen2 := hr2.len
  have hth := thOk_iff (okP_th hp)
  have hn1 : 1 ≤ n := by omega
  have hn2 : n ≤ 12 := by omega
  have hbd := hid (fun (i : Nat) => getD_bd (okP_th hp) i)
  have hst : Hid (0 + sumAt p (row.drop 0) = sumAt p row) := by show _ = _; simp
  have hs : Hid (orbProp p row = sumAt p row / (n : Int)) := by show _ = _; rw [orbProp, hlen]
  rw [hlen] at hb
  have HB := hid hb
  have HR := hid hr
  have HR2 := hid hr2
  clear hlen hlen2 hth hp hb hr hr2
  go_enter Try.func67, Try.ntmps67
  go_wp2
  go_loop [5, 6] (fun v i => ∃ (k : Nat) (u : Int), k ≤ m ∧ i = .int .i64 k ∧ v = .int .i64 u ∧ 0 ≤ u ∧ u ≤ 15 * (k : Int) ∧ Hid (u + sumAt p (row.drop k) = sumAt p row)) (fun _ i => m - (intOf i).toNat)
  case atStart => exact ⟨0, 0, Nat.zero_le _, rfl, rfl, by omega, by omega, hst⟩
  case round =>
    obtain ⟨k, u, hk, rfl, rfl, u0, u1, he⟩ := hrel
    clear hst
    by_cases hlt : k < m
    · obtain ⟨b, off, x, rfl, _, hx, hd, hc⟩ := HR2.out.at_ hlt
      obtain ⟨x0, x1⟩ := HB.out x (List.mem_of_getElem? hx)
      obtain ⟨t, rfl⟩ := Int.eq_ofNat_of_zero_le x0
      obtain ⟨b2, off2, y, rfl, _, hy, _, hc2⟩ := HR.out.at_ (i := t) (by omega)
      have hy2 : p.getD t 0 = y := by rw [List.getD_eq_getElem?_getD, hy]; rfl
      obtain ⟨y0, y1⟩ := hbd.out t
      rw [hy2] at y0 y1
      have HE : Hid ((u + y) + sumAt p (row.drop (k + 1)) = sumAt p row) := by
        show _ = _
        rw [← he.out, hd, sumAt, Int.toNat_natCast, hy2]; omega
      clear he hx hd hy hy2
      go_wp2
      go_round
      case rel => exact ⟨k + 1, u + y, by omega, by go_num, rfl, by omega, by omega, HE⟩
      case measure => simp [intOf]; omega
    · have he := he.out
      have hz : sumAt p (row.drop k) = 0 := by rw [List.drop_eq_nil_of_le (by have := HR2.out.len; omega)]; rfl
      have HE : Hid (u = sumAt p row) := by show _ = _; omega
      clear he hz
      go_wp2
      go_ret
      exact ⟨ret_int (by rw [hs.out, HE.out]), rfl⟩
theorem map_step {f : List Int → Int} {rows : List (List Int)} {m : Nat} {row : List Int} (hx : rows[m]? = some row) : (rows.take (m + 1)).map f = (rows.take m).map f ++ [f row] := by
  rw [List.take_add_one, hx]; simp
theorem specOrbitProps_any (A : Option Addr) (n c : Nat) (p : List Int) (w : World) (hn : n ≤ 1099511627776) (hr : Rd w w.heap.size 1 A n (ints p)) :
    Calls Try.prog 28 #[.slice A n c] w fun e w' => ∃ v, e = .returned (.tuple #[v, .int .i64 (rOrbitProps p).2]) ∧ w'.ownsRow w.heap.size 2 1 v (rOrbitProps p).1.length (ints (rOrbitProps p).1) ∧ Below w.heap.size w w' := by
  have hV := l02Ok_any A n c p w hn hr
  by_cases k : okP p = true
  · rw [k] at hV
    have hV := hid hV
    have hlen := hr.len
    have hth := thOk_iff (okP_th k)
    have hn1 : 1 ≤ n := by omega
    have hn2 : n ≤ 12 := by omega
    have hs : Hid (rOrbitProps p = ((orbs p).map (orbProp p), 0)) := by show _ = _; simp [rOrbitProps, k, orbPs]
    have HO := hid (fun (w1 : World) (h : Rd w1 w1.heap.size 1 A n (ints p)) => l13Orbits_any A n c p w1 k h)
    have HP := hid (fun (A2 : Option Addr) (m c2 : Nat) (row : List Int) (w1 : World) (hm : m ≤ 12) (hb : ∀ x ∈ row, 0 ≤ x ∧ x < p.length) (h : Rd w1 w1.heap.size 1 A n (ints p)) (h2 : Rd w1 w1.heap.size 1 A2 m (ints row)) => l13Props_any A n c p A2 m c2 row w1 k hm hb h h2)
    have hbd := hid (orbs_bd (p := p) (by omega))
    have HR := hid hr
    have hlo := orbs_len p
    rw [hlen] at hlo
    have hlr : (orbs p).length ≤ 12 := by omega
    have hrw := hid (orbs_row (p := p))
    rw [hlen] at hrw
    generalize orbs p = rows at *
    clear hr k hlen hth
    go_enter Try.func28, Try.ntmps28
    go_wp2_with (first | (go_at_call 62; refine (hV.out).mono ?_; rintro e w1 ⟨rfl, hb1⟩; first | (have hk1 := bchain (by assumption) hb1; obtain ⟨hc1, hf1, hz1, hl1⟩ := bcell hk1) | (obtain ⟨hc1, hf1, hz1, hl1⟩ := bcell hb1)) | (go_at_call 64; refine (HO.out _ ((HR.out.below hb1 (Nat.le_refl _)).more hb1.size)).mono ?_; rintro e w2 ⟨v2, rfl, hG2, hb2⟩; obtain ⟨A2, c2, rfl⟩ := hG2.form; have hG := hG2.read))
    clear hG2
    have HB : Hid (Below w.heap.size w w2) := (by repeat' (first | exact Below.refl _ _ | (with_reducible assumption) | (with_reducible refine Below.alloc ?_ ?_ _) | (with_reducible refine Below.setCell ?_ ?_ _) | (with_reducible refine Below.drew ?_) | (with_reducible refine below_drewN ?_ _) | (refine Below.trans ?_ (Below.mono (by assumption) ?_)) | (with_reducible exact Nat.le_refl _) | (with_reducible assumption) | (exact Below.size (by assumption)) | omega | go_size | (simp at *; omega)))
    have hG := hid hG
    have hz2 := HB.out.size
    go_loopw [5, 6] (fun v i wr => ∃ m : Nat, m ≤ rows.length ∧ i = .int .i64 m ∧ wr.ownsRow w2.heap.size 2 1 v ((rows.take m).map (orbProp p)).length (ints ((rows.take m).map (orbProp p))) ∧ Below w2.heap.size w2 wr) (fun _ i _ => rows.length - (intOf i).toNat)
    case atStart => exact ⟨0, Nat.zero_le _, rfl, World.ownsRow_lit _ _ 0 (Nat.le_refl _) (by simp [maxLen]) rfl, (by repeat' (first | exact Below.refl _ _ | (with_reducible assumption) | (with_reducible refine Below.alloc ?_ ?_ _) | (with_reducible refine Below.setCell ?_ ?_ _) | (with_reducible refine Below.drew ?_) | (with_reducible refine below_drewN ?_ _) | (refine Below.trans ?_ (Below.mono (by assumption) ?_)) | (with_reducible exact Nat.le_refl _) | (with_reducible assumption) | (exact Below.size (by assumption)) | omega | go_size | (simp at *; omega)))⟩
    case round =>
      obtain ⟨m, hm, rfl, ho, hb0⟩ := hrel
      have hB := hb0.size
      have hol : ((rows.take m).map (orbProp p)).length ≤ 12 := by rw [List.length_map, List.length_take]; omega
      by_cases hlt : m < rows.length
      · obtain ⟨b, off, row, Ai, ci, rfl, hb, hx, hd, hc, hrd⟩ := (hG.out.below hb0 (Nat.le_refl _)).at_ hlt
        have hl12 := hrw.out row (List.mem_of_getElem? hx)
        have HP2 := hid (HP.out Ai row.length ci row wr (by omega) (hbd.out row (List.mem_of_getElem? hx)) ((HR.out.below (HB.out.trans (hb0.mono hz2)) (Nat.le_refl _)).more (by omega)) (hrd.more hB))
        have HT := hid (map_step (f := orbProp p) hx)
        generalize orbProp p row = y at *
        generalize (rows.take m).map (orbProp p) = out at *
        clear hx hd hb hrd
        go_wp2_with (first | (go_at_call 67; refine (HP2.out).mono ?_; rintro e w' ⟨rfl, rfl⟩) | (at_builtin; refine push_int ho (y) _ Try.underlying29 inf_int rfl rfl _ _ rfl rfl rfl (by omega) (by omega) ?_; intro v1 w1 ho1 hb1 hg1))
        go_roundw
        case rel => exact ⟨m + 1, by omega, by go_num, by rw [HT.out]; exact ho1, (by repeat' (first | exact Below.refl _ _ | (with_reducible assumption) | (with_reducible refine Below.alloc ?_ ?_ _) | (with_reducible refine Below.setCell ?_ ?_ _) | (with_reducible refine Below.drew ?_) | (with_reducible refine below_drewN ?_ _) | (refine Below.trans ?_ (Below.mono (by assumption) ?_)) | (with_reducible exact Nat.le_refl _) | (with_reducible assumption) | (exact Below.size (by assumption)) | omega | go_size | (simp at *; omega)))⟩
        case measure => simp [intOf]; omega
      · rw [List.take_of_length_le (by omega)] at ho
        go_wp2
        go_ret2
        rw [hs.out]
        exact ⟨_, rfl, own_more ho hz2, (by repeat' (first | exact Below.refl _ _ | (with_reducible assumption) | (with_reducible refine Below.alloc ?_ ?_ _) | (with_reducible refine Below.setCell ?_ ?_ _) | (with_reducible refine Below.drew ?_) | (with_reducible refine below_drewN ?_ _) | (refine Below.trans ?_ (Below.mono (by assumption) ?_)) | (with_reducible exact Nat.le_refl _) | (with_reducible assumption) | (exact Below.size (by assumption)) | omega | go_size | (simp at *; omega)))⟩
  · have k : okP p = false := by simpa using k
    rw [k] at hV
    have hV := hid hV
    have hs : Hid (rOrbitProps p = ([], 1)) := by show _ = _; simp [rOrbitProps, k]
    clear k hr
    go_enter Try.func28, Try.ntmps28
    go_wp2_with (first | (go_at_call 62; refine (hV.out).mono ?_; rintro e w1 ⟨rfl, hb1⟩; first | (have hk1 := bchain (by assumption) hb1; obtain ⟨hc1, hf1, hz1, hl1⟩ := bcell hk1) | (obtain ⟨hc1, hf1, hz1, hl1⟩ := bcell hb1)))
    go_ret2
    rw [hs.out]
    exact ⟨_, rfl, World.ownsRow_nil _ _ _ _, (by repeat' (first | exact Below.refl _ _ | (with_reducible assumption) | (with_reducible refine Below.alloc ?_ ?_ _) | (with_reducible refine Below.setCell ?_ ?_ _) | (with_reducible refine Below.drew ?_) | (with_reducible refine below_drewN ?_ _) | (refine Below.trans ?_ (Below.mono (by assumption) ?_)) | (with_reducible exact Nat.le_refl _) | (with_reducible assumption) | (exact Below.size (by assumption)) | omega | go_size | (simp at *; omega)))⟩
set_option maxHeartbeats 400000 in
theorem orbitProps_any (A : Option Addr) (n c : Nat) (p : List Int) (w : World) (k : okP p = true) (hr : Rd w w.heap.size 1 A n (ints p)) :
    Calls Try.prog 68 #[.slice A n c] w fun e w' => ∃ v, e = .returned v ∧ w'.ownsRow w.heap.size 2 1 v (orbPs p).length (ints (orbPs p)) ∧ Below w.heap.size w w' := by
  have hlen := hr.len
  have hth := thOk_iff (okP_th k)
  have hn1 : 1 ≤ n := by omega
  have hn2 : n ≤ 12 := by omega
  have hs : Hid (orbPs p = (orbs p).map (orbProp p)) := rfl
  have hpr := hid (fun (row : List Int) => show orbProp p row = sumAt p row / (n : Int) by rw [orbProp, hlen])
  have HO := hid (fun (w1 : World) (h : Rd w1 w1.heap.size 1 A n (ints p)) => orbitsOf_any A n c p w1 k h)
  have hbd := hid (orbs_bd (p := p) (by omega))
  have hgb := hid (fun (i : Nat) => getD_bd (okP_th k) i)
  rw [hlen] at hbd
  have HR := hid hr
  have hlo := orbs_len p
  rw [hlen] at hlo
  have hlr : (orbs p).length ≤ 12 := by omega
  have hrw := hid (orbs_row (p := p))
  rw [hlen] at hrw
  generalize orbs p = rows at *
  have HA : Hid (Rd (w.alloc (.cells #[] 2)) (w.alloc (.cells #[] 2)).heap.size 1 A n (ints p)) := (hr.alloc (Nat.le_refl _) _).more (by simp)
  have HL : Hid ((w.alloc (.cells #[] 2)).ownsRow w.heap.size 2 1 (.slice (some ⟨w.heap.size, 0, none⟩) 0 0) 0 []) := World.ownsRow_lit _ _ 0 (Nat.le_refl _) (by simp [maxLen]) rfl
  clear hr k hlen hth
  go_enter Try.func68, Try.ntmps68
  go_wp2_with (go_at_call 66; refine (HO.out _ HA.out).mono ?_; rintro e w2 ⟨v2, rfl, hG2, hb2⟩; obtain ⟨A2, c2, rfl⟩ := hG2.form; have HL2 := hid (own_below HL.out hb2); have hB1 : (w.alloc (.cells #[] 2)).heap.size = w.heap.size + 1 := (by simp); have hz2 := hb2.size; have HB : Hid (Below w.heap.size w w2) := (by repeat' (first | exact Below.refl _ _ | (with_reducible assumption) | (with_reducible refine Below.alloc ?_ ?_ _) | (with_reducible refine Below.setCell ?_ ?_ _) | (with_reducible refine Below.drew ?_) | (with_reducible refine below_drewN ?_ _) | (refine Below.trans ?_ (Below.mono (by assumption) ?_)) | (with_reducible exact Nat.le_refl _) | (with_reducible assumption) | (exact Below.size (by assumption)) | omega | go_size | (simp at *; omega))); rw [hB1] at hG2 hz2; clear hB1 hb2)
  have hOff : Off (.slice (some ⟨w.heap.size, 0, none⟩) 0 0) (w.heap.size + 1) w2.heap.size := fun g h => by
    have h : w.heap.size = g := by simpa [Value.ownBlock] using h
    omega
  have hMv : Hid (∀ g, (Value.slice A2 rows.length c2).ownBlock = some g → g < w2.heap.size) := fun g h => (hG2.lt g h).2
  go_loopw [3, 13] (fun v i wr => ∃ m : Nat, m ≤ rows.length ∧ i = .int .i64 m ∧ wr.ownsRow w.heap.size 2 1 v ((rows.take m).map (orbProp p)).length (ints ((rows.take m).map (orbProp p))) ∧ Off v (w.heap.size + 1) w2.heap.size ∧ Grid wr (w.heap.size + 1) w2.heap.size (.slice A2 rows.length c2) rows ∧ w2.heap.size ≤ wr.heap.size ∧ Below w.heap.size w wr) (fun _ i _ => rows.length - (intOf i).toNat)
  case atStart => exact ⟨0, Nat.zero_le _, rfl, HL2.out, hOff, hG2, Nat.le_refl _, HB.out⟩
  case round =>
    obtain ⟨m, hm, rfl, ho, hoff, hG, hzw, hb0⟩ := hrel
    clear hOff hG2
    have hB := hb0.size
    have hol : ((rows.take m).map (orbProp p)).length ≤ 12 := by rw [List.length_map, List.length_take]; omega
    by_cases hlt : m < rows.length
    · obtain ⟨b, off, row, Ai, ci, hA2, hb, hx, hd, hc, hrd⟩ := hG.read.at_ hlt
      have hG := hid hG
      have hl12 := hrw.out row (List.mem_of_getElem? hx)
      have HBD := hid (hbd.out row (List.mem_of_getElem? hx))
      have HRD := hid hrd
      have HRP := hid (HR.out.below hb0 (Nat.le_refl _))
      have HT := hid (map_step (f := orbProp p) hx)
      have hst : Hid (0 + sumAt p (row.drop 0) = sumAt p row) := by show _ = _; simp
      have HOFF := hid hoff
      subst hA2
      clear hx hd hb hrd hoff
      go_wp2
      go_loop [6, 19] (fun v i => ∃ (t : Nat) (u : Int), t ≤ row.length ∧ i = .int .i64 t ∧ v = .int .i64 u ∧ 0 ≤ u ∧ u ≤ 15 * (t : Int) ∧ Hid (u + sumAt p (row.drop t) = sumAt p row)) (fun _ i => row.length - (intOf i).toNat)
      case atStart => exact ⟨0, 0, Nat.zero_le _, rfl, rfl, by omega, by omega, hst⟩
      case round =>
        obtain ⟨t, u, ht, rfl, rfl, u0, u1, he⟩ := hrel
        clear hst
        by_cases hlt2 : t < row.length
        · obtain ⟨b2, off2, x, rfl, _, hx, hd, hc2⟩ := HRD.out.at_ hlt2
          obtain ⟨x0, x1⟩ := HBD.out x (List.mem_of_getElem? hx)
          obtain ⟨q, rfl⟩ := Int.eq_ofNat_of_zero_le x0
          obtain ⟨b3, off3, y, rfl, _, hy, _, hc3⟩ := HRP.out.at_ (i := q) (by omega)
          have hy2 : p.getD q 0 = y := by rw [List.getD_eq_getElem?_getD, hy]; rfl
          obtain ⟨y0, y1⟩ := hgb.out q
          rw [hy2] at y0 y1
          have HE : Hid ((u + y) + sumAt p (row.drop (t + 1)) = sumAt p row) := by
            show _ = _
            rw [← he.out, hd, sumAt, Int.toNat_natCast, hy2]; omega
          clear he hx hd hy hy2
          go_wp2
          go_round
          case rel => exact ⟨t + 1, u + y, by omega, by go_num, rfl, by omega, by omega, HE⟩
          case measure => simp [intOf]; omega
        · have he := he.out
          have hz : sumAt p (row.drop t) = 0 := by rw [List.drop_eq_nil_of_le (by omega)]; rfl
          have HE : Hid (orbProp p row = u / (n : Int)) := by show _ = _; rw [hpr.out]; congr 1; omega
          rw [HE.out] at HT
          have hn0 : 1 ≤ (n : Int) := by omega
          clear he hz HE
          generalize (rows.take m).map (orbProp p) = out at *
          go_wp2_with (first | (go_at_call 77; refine (period_any _ _ _ _ (by omega)).mono ?_; rintro e w' ⟨rfl, rfl⟩) | (at_builtin; refine push_int2 ho (u / (n : Int)) _ Try.underlying29 inf_int rfl rfl _ _ rfl rfl rfl (by omega) (by omega) ?_; intro v1 w1 ho1 hb1 hg1 hs1))
          go_roundw
          case rel => exact ⟨m + 1, by omega, by go_num, by rw [HT.out]; exact ho1, HOFF.out.same hs1 hzw, hG.out.off hMv.out HOFF.out hg1, Nat.le_trans hzw hb1.size, (by repeat' (first | exact Below.refl _ _ | (with_reducible assumption) | (with_reducible refine Below.alloc ?_ ?_ _) | (with_reducible refine Below.setCell ?_ ?_ _) | (with_reducible refine Below.drew ?_) | (with_reducible refine below_drewN ?_ _) | (refine Below.trans ?_ (Below.mono (by assumption) ?_)) | (with_reducible exact Nat.le_refl _) | (with_reducible assumption) | (exact Below.size (by assumption)) | omega | go_size | (simp at *; omega)))⟩
          case measure => simp [intOf]; omega
    · rw [List.take_of_length_le (by omega)] at ho
      clear hG
      go_wp2
      go_ret
      rw [hs.out]
      exact ⟨_, rfl, ho, hb0⟩
theorem OrbitProps_any (A : Option Addr) (n c : Nat) (p : List Int) (w : World) (hn : n ≤ 1099511627776) (hr : Rd w w.heap.size 1 A n (ints p)) :
    Calls Try.prog 29 #[.slice A n c] w fun e w' => ∃ v, e = .returned (.tuple #[v, .int .i64 (rOrbitProps p).2]) ∧ w'.ownsRow w.heap.size 2 1 v (rOrbitProps p).1.length (ints (rOrbitProps p).1) ∧ Below w.heap.size w w' := by
  have hV := ValidPattern_any A n c p w hn hr
  by_cases k : okP p = true
  · rw [k] at hV
    have hV := hid hV
    have hs : Hid (rOrbitProps p = (orbPs p, 0)) := by show _ = _; simp [rOrbitProps, k]
    have HO := hid (fun (w1 : World) (h : Rd w1 w1.heap.size 1 A n (ints p)) => orbitProps_any A n c p w1 k h)
    have HR := hid hr
    clear hr k
    go_enter Try.func29, Try.ntmps29
    go_wp2_with (first | (go_at_call 65; refine (hV.out).mono ?_; rintro e w1 ⟨rfl, hb1⟩; first | (have hk1 := bchain (by assumption) hb1; obtain ⟨hc1, hf1, hz1, hl1⟩ := bcell hk1) | (obtain ⟨hc1, hf1, hz1, hl1⟩ := bcell hb1)) | (go_at_call 68; refine (HO.out _ ((HR.out.below hb1 (Nat.le_refl _)).more hb1.size)).mono ?_; rintro e w2 ⟨v2, rfl, ho2, hb2⟩))
    go_ret2
    rw [hs.out]
    exact ⟨_, rfl, own_more ho2 hb1.size, (by repeat' (first | exact Below.refl _ _ | (with_reducible assumption) | (with_reducible refine Below.alloc ?_ ?_ _) | (with_reducible refine Below.setCell ?_ ?_ _) | (with_reducible refine Below.drew ?_) | (with_reducible refine below_drewN ?_ _) | (refine Below.trans ?_ (Below.mono (by assumption) ?_)) | (with_reducible exact Nat.le_refl _) | (with_reducible assumption) | (exact Below.size (by assumption)) | omega | go_size | (simp at *; omega)))⟩
  · have k : okP p = false := by simpa using k
    rw [k] at hV
    have hV := hid hV
    have hs : Hid (rOrbitProps p = ([], 1)) := by show _ = _; simp [rOrbitProps, k]
    clear k hr
    go_enter Try.func29, Try.ntmps29
    go_wp2_with (first | (go_at_call 65; refine (hV.out).mono ?_; rintro e w1 ⟨rfl, hb1⟩; first | (have hk1 := bchain (by assumption) hb1; obtain ⟨hc1, hf1, hz1, hl1⟩ := bcell hk1) | (obtain ⟨hc1, hf1, hz1, hl1⟩ := bcell hb1)))
    go_ret2
    rw [hs.out]
    exact ⟨_, rfl, World.ownsRow_nil _ _ _ _, (by repeat' (first | exact Below.refl _ _ | (with_reducible assumption) | (with_reducible refine Below.alloc ?_ ?_ _) | (with_reducible refine Below.setCell ?_ ?_ _) | (with_reducible refine Below.drew ?_) | (with_reducible refine below_drewN ?_ _) | (refine Below.trans ?_ (Below.mono (by assumption) ?_)) | (with_reducible exact Nat.le_refl _) | (with_reducible assumption) | (exact Below.size (by assumption)) | omega | go_size | (simp at *; omega)))⟩
theorem fnExactOrbitProps_walk (w : World) (aPA : Option Addr) (aPN aPC : Nat) (aP : List Int) (aPK : Came .i64 w aPA aPN aPC aP) :
    Calls Try.prog 7 #[.slice aPA aPN aPC] w fun e w' => e = .returned (.bool true) ∧ Below w.heap.size w w' := by
  by_cases hlong : 1048576 < aPN
  · have hm := aPK.2.1
    go_enter Try.func7, Try.ntmps7
    go_wp2
    go_ret
    exact ⟨rfl, (by repeat' (first | exact Below.refl _ _ | (with_reducible assumption) | (with_reducible refine Below.alloc ?_ ?_ _) | (with_reducible refine Below.setCell ?_ ?_ _) | (with_reducible refine Below.drew ?_) | (with_reducible refine below_drewN ?_ _) | (refine Below.trans ?_ (Below.mono (by assumption) ?_)) | (with_reducible exact Nat.le_refl _) | (with_reducible assumption) | (exact Below.size (by assumption)) | omega | go_size | (simp at *; omega)))⟩
  have KaP := Rd.of_came aPK
  have KLaP := KaP.len
  have B0aP := hid aPK
  have hS := hid (fun (AaP : Option Addr) (caP : Nat) (w1 : World) (kaP : Rd w1 w1.heap.size 1 AaP aPN (ints aP)) => specOrbitProps_any AaP aPN caP aP w1 (by omega) kaP)
  have hI := hid (fun (AaP : Option Addr) (caP : Nat) (w1 : World) (kaP : Rd w1 w1.heap.size 1 AaP aPN (ints aP)) => OrbitProps_any AaP aPN caP aP w1 (by omega) kaP)
  have hL := OrbitProps_len aP
  generalize rOrbitProps aP = r at *
  obtain ⟨r0, r1⟩ := r
  try dsimp only at hL
  have hB := Below.refl w.heap.size w
  go_enter Try.func7, Try.ntmps7
  go_wp2_with (go_at_call 19; refine (toInt64S_any _ _ _ _ _ (by omega) ((KaP.below hB (Nat.le_refl _)).more hB.size)).mono ?_; rintro e w1 ⟨v1, rfl, ho1, hb1⟩; obtain ⟨A1, c1, rfl⟩ := own_form ho1; have l1 := ho1.lt; have s1 := hb1.size; replace hB := bchain hB hb1)
  go_wp2_with (go_at_call 28; refine (hS.out _ _ _ (Rd.of_own ho1)).mono ?_; rintro e w2 ⟨v2, rfl, ho2, hb2⟩; obtain ⟨A2, c2, rfl⟩ := own_form ho2; have l2 := ho2.lt; have s2 := hb2.size; replace hB := bchain hB hb2)
  go_wp2_with (go_at_call 19; refine (toInt64S_any _ _ _ _ _ (by omega) ((KaP.below hB (Nat.le_refl _)).more hB.size)).mono ?_; rintro e w3 ⟨v3, rfl, ho3, hb3⟩; obtain ⟨A3, c3, rfl⟩ := own_form ho3; have l3 := ho3.lt; have s3 := hb3.size; replace hB := bchain hB hb3; replace ho2 := own_below ho2 hb3)
  go_wp2_with (go_at_call 29; refine (hI.out _ _ _ (Rd.of_own ho3)).mono ?_; rintro e w4 ⟨v4, rfl, ho4, hb4⟩; obtain ⟨A4, c4, rfl⟩ := own_form ho4; have l4 := ho4.lt; have s4 := hb4.size; replace hB := bchain hB hb4; replace ho2 := own_below ho2 hb4; replace ho3 := own_below ho3 hb4)
  go_wp2_with (go_at_call 21; refine (eqInt64S_same _ _ _ _ _ _ _ (by omega) (Rd.of_own ho4) (Rd.of_own ho2)).mono ?_; rintro e w5 ⟨rfl, hb5⟩; have s5 := hb5.size; replace hB := bchain hB hb5; replace ho2 := own_below ho2 hb5; replace ho3 := own_below ho3 hb5; replace ho4 := own_below ho4 hb5)
  go_wp2_with (go_at_call 19; refine (toInt64S_any _ _ _ _ _ (by omega) ((KaP.below hB (Nat.le_refl _)).more hB.size)).mono ?_; rintro e w6 ⟨v6, rfl, ho6, hb6⟩; obtain ⟨A6, c6, rfl⟩ := own_form ho6; have l6 := ho6.lt; have s6 := hb6.size; replace hB := bchain hB hb6; replace ho2 := own_below ho2 hb6; replace ho3 := own_below ho3 hb6; replace ho4 := own_below ho4 hb6)
  go_wp2_with (go_at_call 21; refine (eqInt64S_same _ _ _ _ _ _ _ (by omega) (Rd.of_own ho3) (Rd.of_own ho6)).mono ?_; rintro e w7 ⟨rfl, hb7⟩; have s7 := hb7.size; replace hB := bchain hB hb7; replace ho2 := own_below ho2 hb7; replace ho3 := own_below ho3 hb7; replace ho4 := own_below ho4 hb7)
  go_wp2_with (go_at_call 22; refine (markInt64S_any _ _ _ 1 _ _ (by omega) (by omega) ho3).mono ?_; rintro e w8 ⟨rfl, hm8, hg8⟩; have s8 := hg8.size; replace hB := below_grown hB hg8 (fun g h => by have := (l3 g h).1; omega); replace ho2 := own_apart ho2 w2.heap.size (fun g h => by have := (l2 g h).2; omega) (fun g h => by have := (l3 g h).1; omega) hg8; replace ho4 := own_after ho4 w3.heap.size (fun g h => by have := (l4 g h).1; omega) (fun g h => by have := (l3 g h).2; omega) hg8)
  go_wp2_with (go_at_call 21; refine (eqInt64S_same _ _ _ _ _ _ _ (by omega) (Rd.of_own ho4) (Rd.of_own ho2)).mono ?_; rintro e w9 ⟨rfl, hb9⟩; have s9 := hb9.size; replace hB := bchain hB hb9; replace ho2 := own_below ho2 hb9; replace ho4 := own_below ho4 hb9)
  go_wp2_with (go_at_call 22; refine (markInt64S_any _ _ _ 1 _ _ (by omega) (by omega) ho4).mono ?_; rintro e w10 ⟨rfl, hm10, hg10⟩; have s10 := hg10.size; replace hB := below_grown hB hg10 (fun g h => by have := (l4 g h).1; omega); replace ho2 := own_apart ho2 w3.heap.size (fun g h => by have := (l2 g h).2; omega) (fun g h => by have := (l4 g h).1; omega) hg10; replace ho4 := hm10)
  go_wp2_with (go_at_call 23; refine (heldInt64S_any _ _ _ 1 _ (by omega) (by omega) (Rd.of_own ho4)).mono ?_; rintro e w11 ⟨rfl, hb11⟩; have s11 := hb11.size; replace hB := bchain hB hb11; replace ho2 := own_below ho2 hb11; replace ho4 := own_below ho4 hb11)
  go_wp2_with (go_at_call 19; refine (toInt64S_any _ _ _ _ _ (by omega) ((KaP.below hB (Nat.le_refl _)).more hB.size)).mono ?_; rintro e w12 ⟨v12, rfl, ho12, hb12⟩; obtain ⟨A12, c12, rfl⟩ := own_form ho12; have l12 := ho12.lt; have s12 := hb12.size; replace hB := bchain hB hb12; replace ho2 := own_below ho2 hb12; replace ho4 := own_below ho4 hb12)
  go_wp2_with (go_at_call 29; refine (hI.out _ _ _ (Rd.of_own ho12)).mono ?_; rintro e w13 ⟨v13, rfl, ho13, hb13⟩; obtain ⟨A13, c13, rfl⟩ := own_form ho13; have l13 := ho13.lt; have s13 := hb13.size; replace hB := bchain hB hb13; replace ho2 := own_below ho2 hb13; replace ho4 := own_below ho4 hb13)
  go_wp2_with (go_at_call 21; refine (eqInt64S_same _ _ _ _ _ _ _ (by omega) (Rd.of_own ho13) (Rd.of_own ho2)).mono ?_; rintro e w14 ⟨rfl, hb14⟩; have s14 := hb14.size; replace hB := bchain hB hb14; replace ho4 := own_below ho4 hb14)
  go_wp2_with (go_at_call 23; refine (heldInt64S_any _ _ _ 1 _ (by omega) (by omega) (Rd.of_own ho4)).mono ?_; rintro e w15 ⟨rfl, hb15⟩; have s15 := hb15.size; replace hB := bchain hB hb15)
  go_ret
  exact ⟨rfl, (by repeat' (first | exact Below.refl _ _ | (with_reducible assumption) | (with_reducible refine Below.alloc ?_ ?_ _) | (with_reducible refine Below.setCell ?_ ?_ _) | (with_reducible refine Below.drew ?_) | (with_reducible refine below_drewN ?_ _) | (refine Below.trans ?_ (Below.mono (by assumption) ?_)) | (with_reducible exact Nat.le_refl _) | (with_reducible assumption) | (exact Below.size (by assumption)) | omega | go_size | (simp at *; omega)))⟩

end Go.Proofs.Ythbbfhlpoinenaa
