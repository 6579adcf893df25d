/- Contracts of OrbitProps, and the walk of its law. -/
import Derived.Test.YteaabniemlnjbaaOb
import Derived.Test.YteaabniemlnjbaaOr
import Derived.Test.YteaabniemlnjbaaPu
namespace Go.Proofs.Yteaabniemlnjbaa
open Go.RowKit
set_option linter.unusedVariables false

theorem map_step {f : List Int → Int} {rows : List (List Int)} {m : Nat} {row : List Int} (hx : rows[m]? = some row) : (rows.take (m + 1)).map f = (rows.take m).map f ++ [f row] := by
  rw [List.take_add_one, hx]; simp
set_option maxHeartbeats 400000 in
theorem orbitProps_any (A : Option Addr) (n c : Nat) (p : List Int) (w : World) (k : okP p = true) (hr : Rd w w.heap.size 1 A n (ints p)) :
    Calls Try.prog 112 #[.slice A n c] w fun e w' => ∃ v, e = .returned v ∧ w'.ownsRow w.heap.size 2 1 v (orbPs p).length (ints (orbPs p)) ∧ Below w.heap.size w w' := by
  have hlen := hr.len
  have hth := thOk_iff (okP_th k)
  have hn1 : 1 ≤ n := by omega
  have hn2 : n ≤ 12 := by omega
  have hs : Hid (orbPs p = (orbs p).map (orbProp p)) := rfl
  have hpr := hid (fun (row : List Int) => show orbProp p row = sumAt p row / (n : Int) by rw [orbProp, hlen])
  have HO := hid (fun (w1 : World) (h : Rd w1 w1.heap.size 1 A n (ints p)) => orbitsOf_any A n c p w1 k h)
  have hbd := hid (orbs_bd (p := p) (by omega))
  have hgb := hid (fun (i : Nat) => getD_bd (okP_th k) i)
  rw [hlen] at hbd
  have HR := hid hr
  have hlo := orbs_len p
  rw [hlen] at hlo
  have hlr : (orbs p).length ≤ 12 := by omega
  have hrw := hid (orbs_row (p := p))
  rw [hlen] at hrw
  generalize orbs p = rows at *
  have HA : Hid (Rd (w.alloc (.cells #[] 2)) (w.alloc (.cells #[] 2)).heap.size 1 A n (ints p)) := (hr.alloc (Nat.le_refl _) _).more (by simp)
  have HL : Hid ((w.alloc (.cells #[] 2)).ownsRow w.heap.size 2 1 (.slice (some ⟨w.heap.size, 0, none⟩) 0 0) 0 []) := World.ownsRow_lit _ _ 0 (Nat.le_refl _) (by simp [maxLen]) rfl
  clear hr k hlen hth
  go_enter Try.func112, Try.ntmps112
  go_wp2_with (go_at_call 111; refine (HO.out _ HA.out).mono ?_; rintro e w2 ⟨v2, rfl, hG2, hb2⟩; obtain ⟨A2, c2, rfl⟩ := hG2.form; have HL2 := hid (own_below HL.out hb2); have hB1 : (w.alloc (.cells #[] 2)).heap.size = w.heap.size + 1 := (by simp); have hz2 := hb2.size; have HB : Hid (Below w.heap.size w w2) := (by repeat' (first | exact Below.refl _ _ | (with_reducible assumption) | (with_reducible refine Below.alloc ?_ ?_ _) | (with_reducible refine Below.setCell ?_ ?_ _) | (with_reducible refine Below.drew ?_) | (with_reducible refine below_drewN ?_ _) | (refine Below.trans ?_ (Below.mono (by assumption) ?_)) | (with_reducible exact Nat.le_refl _) | (with_reducible assumption) | (exact Below.size (by assumption)) | omega | go_size | (simp at *; omega))); rw [hB1] at hG2 hz2; clear hB1 hb2)
  have hOff : Off (.slice (some ⟨w.heap.size, 0, none⟩) 0 0) (w.heap.size + 1) w2.heap.size := fun g h => by
    have h : w.heap.size = g := by simpa [Value.ownBlock] using h
    omega
  have hMv : Hid (∀ g, (Value.slice A2 rows.length c2).ownBlock = some g → g < w2.heap.size) := fun g h => (hG2.lt g h).2
  go_loopw [3, 13] (fun v i wr => ∃ m : Nat, m ≤ rows.length ∧ i = .int .i64 m ∧ wr.ownsRow w.heap.size 2 1 v ((rows.take m).map (orbProp p)).length (ints ((rows.take m).map (orbProp p))) ∧ Off v (w.heap.size + 1) w2.heap.size ∧ Grid wr (w.heap.size + 1) w2.heap.size (.slice A2 rows.length c2) rows ∧ w2.heap.size ≤ wr.heap.size ∧ Below w.heap.size w wr) (fun _ i _ => rows.length - (intOf i).toNat)
  case atStart => exact ⟨0, Nat.zero_le _, rfl, HL2.out, hOff, hG2, Nat.le_refl _, HB.out⟩
  case round =>
    obtain ⟨m, hm, rfl, ho, hoff, hG, hzw, hb0⟩ := hrel
    clear hOff hG2
    have hB := hb0.size
    have hol : ((rows.take m).map (orbProp p)).length ≤ 12 := by rw [List.length_map, List.length_take]; omega
    by_cases hlt : m < rows.length
    · obtain ⟨b, off, row, Ai, ci, hA2, hb, hx, hd, hc, hrd⟩ := hG.read.at_ hlt
      have hG := hid hG
      have hl12 := hrw.out row (List.mem_of_getElem? hx)
      have HBD := hid (hbd.out row (List.mem_of_getElem? hx))
      have HRD := hid hrd
      have HRP := hid (HR.out.below hb0 (Nat.le_refl _))
      have HT := hid (map_step (f := orbProp p) hx)
      have hst : Hid (0 + sumAt p (row.drop 0) = sumAt p row) := by show _ = _; simp
      have HOFF := hid hoff
      subst hA2
      clear hx hd hb hrd hoff
      go_wp2
      go_loop [6, 19] (fun v i => ∃ (t : Nat) (u : Int), t ≤ row.length ∧ i = .int .i64 t ∧ v = .int .i64 u ∧ 0 ≤ u ∧ u ≤ 15 * (t : Int) ∧ Hid (u + sumAt p (row.drop t) = sumAt p row)) (fun _ i => row.length - (intOf i).toNat)
      case atStart => exact ⟨0, 0, Nat.zero_le _, rfl, rfl, by omega, by omega, hst⟩
      case round =>
        obtain ⟨t, u, ht, rfl, rfl, u0, u1, he⟩ := hrel
        clear hst
        by_cases hlt2 : t < row.length
        · obtain ⟨b2, off2, x, rfl, _, hx, hd, hc2⟩ := HRD.out.at_ hlt2
          obtain ⟨x0, x1⟩ := HBD.out x (List.mem_of_getElem? hx)
          obtain ⟨q, rfl⟩ := Int.eq_ofNat_of_zero_le x0
          obtain ⟨b3, off3, y, rfl, _, hy, _, hc3⟩ := HRP.out.at_ (i := q) (by omega)
          have hy2 : p.getD q 0 = y := by rw [List.getD_eq_getElem?_getD, hy]; rfl
          obtain ⟨y0, y1⟩ := hgb.out q
          rw [hy2] at y0 y1
          have HE : Hid ((u + y) + sumAt p (row.drop (t + 1)) = sumAt p row) := by
            show _ = _
            rw [← he.out, hd, sumAt, Int.toNat_natCast, hy2]; omega
          clear he hx hd hy hy2
          go_wp2
          go_round
          case rel => exact ⟨t + 1, u + y, by omega, by go_num, rfl, by omega, by omega, HE⟩
          case measure => simp [intOf]; omega
        · have he := he.out
          have hz : sumAt p (row.drop t) = 0 := by rw [List.drop_eq_nil_of_le (by omega)]; rfl
          have HE : Hid (orbProp p row = u / (n : Int)) := by show _ = _; rw [hpr.out]; congr 1; omega
          rw [HE.out] at HT
          have hn0 : 1 ≤ (n : Int) := by omega
          clear he hz HE
          generalize (rows.take m).map (orbProp p) = out at *
          go_wp2_with (first | (go_at_call 107; refine (period_any _ _ _ _ (by omega)).mono ?_; rintro e w' ⟨rfl, rfl⟩) | (at_builtin; refine push_int2 ho (u / (n : Int)) _ Try.underlying22 inf_int rfl rfl _ _ rfl rfl rfl (by omega) (by omega) ?_; intro v1 w1 ho1 hb1 hg1 hs1))
          go_roundw
          case rel => exact ⟨m + 1, by omega, by go_num, by rw [HT.out]; exact ho1, HOFF.out.same hs1 hzw, hG.out.off hMv.out HOFF.out hg1, Nat.le_trans hzw hb1.size, (by repeat' (first | exact Below.refl _ _ | (with_reducible assumption) | (with_reducible refine Below.alloc ?_ ?_ _) | (with_reducible refine Below.setCell ?_ ?_ _) | (with_reducible refine Below.drew ?_) | (with_reducible refine below_drewN ?_ _) | (refine Below.trans ?_ (Below.mono (by assumption) ?_)) | (with_reducible exact Nat.le_refl _) | (with_reducible assumption) | (exact Below.size (by assumption)) | omega | go_size | (simp at *; omega)))⟩
          case measure => simp [intOf]; omega
    · rw [List.take_of_length_le (by omega)] at ho
      clear hG
      go_wp2
      go_ret
      rw [hs.out]
      exact ⟨_, rfl, ho, hb0⟩
theorem OrbitProps_any (A : Option Addr) (n c : Nat) (p : List Int) (w : World) (hn : n ≤ 1099511627776) (hr : Rd w w.heap.size 1 A n (ints p)) :
    Calls Try.prog 55 #[.slice A n c] w fun e w' => ∃ v, e = .returned (.tuple #[v, .int .i64 (rOrbitProps p).2]) ∧ w'.ownsRow w.heap.size 2 1 v (rOrbitProps p).1.length (ints (rOrbitProps p).1) ∧ Below w.heap.size w w' := by
  have hV := ValidPattern_any A n c p w hn hr
  by_cases k : okP p = true
  · rw [k] at hV
    have hV := hid hV
    have hs : Hid (rOrbitProps p = (orbPs p, 0)) := by show _ = _; simp [rOrbitProps, k]
    have HO := hid (fun (w1 : World) (h : Rd w1 w1.heap.size 1 A n (ints p)) => orbitProps_any A n c p w1 k h)
    have HR := hid hr
    clear hr k
    go_enter Try.func55, Try.ntmps55
    go_wp2_with (first | (go_at_call 64; refine (hV.out).mono ?_; rintro e w1 ⟨rfl, hb1⟩; first | (have hk1 := bchain (by assumption) hb1; obtain ⟨hc1, hf1, hz1, hl1⟩ := bcell hk1) | (obtain ⟨hc1, hf1, hz1, hl1⟩ := bcell hb1)) | (go_at_call 112; refine (HO.out _ ((HR.out.below hb1 (Nat.le_refl _)).more hb1.size)).mono ?_; rintro e w2 ⟨v2, rfl, ho2, hb2⟩))
    go_ret2
    rw [hs.out]
    exact ⟨_, rfl, own_more ho2 hb1.size, (by repeat' (first | exact Below.refl _ _ | (with_reducible assumption) | (with_reducible refine Below.alloc ?_ ?_ _) | (with_reducible refine Below.setCell ?_ ?_ _) | (with_reducible refine Below.drew ?_) | (with_reducible refine below_drewN ?_ _) | (refine Below.trans ?_ (Below.mono (by assumption) ?_)) | (with_reducible exact Nat.le_refl _) | (with_reducible assumption) | (exact Below.size (by assumption)) | omega | go_size | (simp at *; omega)))⟩
  · have k : okP p = false := by simpa using k
    rw [k] at hV
    have hV := hid hV
    have hs : Hid (rOrbitProps p = ([], 1)) := by show _ = _; simp [rOrbitProps, k]
    clear k hr
    go_enter Try.func55, Try.ntmps55
    go_wp2_with (first | (go_at_call 64; refine (hV.out).mono ?_; rintro e w1 ⟨rfl, hb1⟩; first | (have hk1 := bchain (by assumption) hb1; obtain ⟨hc1, hf1, hz1, hl1⟩ := bcell hk1) | (obtain ⟨hc1, hf1, hz1, hl1⟩ := bcell hb1)))
    go_ret2
    rw [hs.out]
    exact ⟨_, rfl, World.ownsRow_nil _ _ _ _, (by repeat' (first | exact Below.refl _ _ | (with_reducible assumption) | (with_reducible refine Below.alloc ?_ ?_ _) | (with_reducible refine Below.setCell ?_ ?_ _) | (with_reducible refine Below.drew ?_) | (with_reducible refine below_drewN ?_ _) | (refine Below.trans ?_ (Below.mono (by assumption) ?_)) | (with_reducible exact Nat.le_refl _) | (with_reducible assumption) | (exact Below.size (by assumption)) | omega | go_size | (simp at *; omega)))⟩

end Go.Proofs.Yteaabniemlnjbaa
