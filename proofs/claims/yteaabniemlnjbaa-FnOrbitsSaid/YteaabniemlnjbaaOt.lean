/- Contracts of OrbitPattern, and the walk of its law. -/
import Derived.Test.YteaabniemlnjbaaOb
import Derived.Test.YteaabniemlnjbaaOq
namespace Go.Proofs.Yteaabniemlnjbaa
open Go.RowKit
set_option linter.unusedVariables false

/-- The throws at the beats of a row are put in. -/
def putAll (p : List Int) : List Int → List Int → List Int
  | [], o => o
  | k :: r, o => putAll p r (o.set k.toNat (p.getD k.toNat 0))
theorem putAll_len (p : List Int) : ∀ (r o : List Int), (putAll p r o).length = o.length := by
  intro r
  induction r with
  | nil => intro o; rfl
  | cons k r ih => intro o; rw [putAll, ih, List.length_set]
def orbPat (p row : List Int) : List Int := putAll p row (List.replicate p.length 0)
theorem orbPat_len (p row : List Int) : (orbPat p row).length = p.length := by rw [orbPat, putAll_len, List.length_replicate]
def rOrbitPattern (p : List Int) (i : Int) : List Int × Int := if okP p then (if betweenB i 0 ((orbs p).length - 1) then (orbPat p ((orbs p).getD i.toNat []), 0) else ([], 2)) else ([], 1)
theorem OrbitPattern_len (p : List Int) (i : Int) : (rOrbitPattern p i).1.length ≤ 12 := by
  unfold rOrbitPattern
  split
  · rename_i h
    split
    · show (orbPat p _).length ≤ 12
      rw [orbPat_len]; exact (thOk_iff (okP_th h)).2.2
    · simp
  · simp
theorem ints_set (o : List Int) (k : Nat) (y : Int) : (ints o).set k (.int .i64 y) = ints (o.set k y) := by simp [ints, List.map_set]
theorem ints_zero (n : Nat) : List.replicate n (Value.int .i64 0) = ints (List.replicate n 0) := by simp [ints]

set_option maxHeartbeats 400000 in
theorem OrbitPattern_any (A : Option Addr) (n c : Nat) (p : List Int) (i : Int) (w : World) (hn : n ≤ 1099511627776) (hr : Rd w w.heap.size 1 A n (ints p)) :
    Calls Try.prog 57 #[.slice A n c, .int .i64 i] w fun e w' => ∃ v, e = .returned (.tuple #[v, .int .i64 (rOrbitPattern p i).2]) ∧ w'.ownsRow w.heap.size 2 1 v (rOrbitPattern p i).1.length (ints (rOrbitPattern p i).1) ∧ Below w.heap.size w w' := by
  have hV := ValidPattern_any A n c p w hn hr
  by_cases k : okP p = true
  · rw [k] at hV
    have hV := hid hV
    have hlen := hr.len
    have hth := thOk_iff (okP_th k)
    have hn1 : 1 ≤ n := by omega
    have hn2 : n ≤ 12 := by omega
    have HO := hid (fun (w1 : World) (h : Rd w1 w1.heap.size 1 A n (ints p)) => orbitsOf_any A n c p w1 k h)
    have HR := hid hr
    have hlo := orbs_len p
    rw [hlen] at hlo
    have hlr : (orbs p).length ≤ 12 := by omega
    have hrw := hid (orbs_row (p := p))
    rw [hlen] at hrw
    have hbd := hid (orbs_bd (p := p) (by omega))
    rw [hlen] at hbd
    by_cases k2 : betweenB i 0 (((orbs p).length : Int) - 1) = true
    · obtain ⟨i0, i1⟩ := betweenB_ix.1 k2
      obtain ⟨t, rfl⟩ := Int.eq_ofNat_of_zero_le i0
      have htl : t < (orbs p).length := by omega
      obtain ⟨row, hrow⟩ : ∃ row, (orbs p)[t]? = some row := ⟨_, List.getElem?_eq_getElem htl⟩
      have hs : Hid (rOrbitPattern p (t : Int) = (putAll p row (List.replicate n 0), 0)) := by
        show _ = _
        rw [rOrbitPattern, if_pos k, if_pos k2, Int.toNat_natCast, List.getD_eq_getElem?_getD, hrow, orbPat, hlen]; rfl
      have hpl := hid (putAll_len p row (List.replicate n 0))
      have HROW := hid hrow
      have hst : Hid (putAll p (row.drop 0) (List.replicate n 0) = putAll p row (List.replicate n 0)) := rfl
      have hl12 := hrw.out row (List.mem_of_getElem? hrow)
      have HBD := hid (hbd.out row (List.mem_of_getElem? hrow))
      generalize orbs p = rows at *
      generalize putAll p row (List.replicate n 0) = R at *
      clear hr k hrow hlen hth i0 i1
      go_enter Try.func57, Try.ntmps57
      go_wp2_with (first | (go_at_call 64; refine (hV.out).mono ?_; rintro e w1 ⟨rfl, hb1⟩; first | (have hk1 := bchain (by assumption) hb1; obtain ⟨hc1, hf1, hz1, hl1⟩ := bcell hk1) | (obtain ⟨hc1, hf1, hz1, hl1⟩ := bcell hb1)) | (go_at_call 79; refine (between_any _ _ _ _).mono ?_; rintro e w' ⟨rfl, rfl⟩) | (go_at_call 111; refine (HO.out _ ((HR.out.below hb1 (Nat.le_refl _)).more hb1.size)).mono ?_; rintro e w2 ⟨v2, rfl, hG2, hb2⟩; obtain ⟨A2, c2, rfl⟩ := hG2.form; have hG := hG2.read; have HB : Hid (Below w.heap.size w w2) := (by repeat' (first | exact Below.refl _ _ | (with_reducible assumption) | (with_reducible refine Below.alloc ?_ ?_ _) | (with_reducible refine Below.setCell ?_ ?_ _) | (with_reducible refine Below.drew ?_) | (with_reducible refine below_drewN ?_ _) | (refine Below.trans ?_ (Below.mono (by assumption) ?_)) | (with_reducible exact Nat.le_refl _) | (with_reducible assumption) | (exact Below.size (by assumption)) | omega | go_size | (simp at *; omega))); have hz2 := HB.out.size; clear hG2; obtain ⟨b, off, row2, Ai, ci, hA2, hb, hx, _, hc, hrd⟩ := hG.at_ htl; obtain rfl : row = row2 := Option.some.inj (HROW.out.symm.trans hx); subst hA2; have hbl := hid hb; have HRD := hid hrd; clear hx hrd hb hG) | (at_make; refine make_own w2.heap.size Try.underlying22 inf_int rfl rfl (.tmp 22) (.tmp 22) rfl .i64 .i64 n rfl rfl (by omega) (by omega) (Nat.le_refl _) ?_; intro w3 ho3 hb3 hlt3; rw [ints_zero] at ho3; have hc3 := (hb3.cell (p := ⟨b, off + t, none⟩) hbl.out).trans hc))
      go_wp2
      go_loopw [29] (fun v wr => ∃ (m : Nat) (o : List Int), m ≤ row.length ∧ v = .int .i64 m ∧ Hid (o.length = n) ∧ Hid (putAll p (row.drop m) o = R) ∧ wr.ownsRow w2.heap.size 2 1 (.slice (some ⟨w2.heap.size, 0, none⟩) n n) n (ints o) ∧ Below w2.heap.size w2 wr) (fun v _ => row.length - (intOf v).toNat)
      case atStart => exact ⟨0, _, Nat.zero_le _, rfl, by show _ = _; simp, hst, ho3, hb3⟩
      case round =>
        obtain ⟨m, o, hm, rfl, hol, he, ho, hb0⟩ := hrel
        clear hst ho3 hb3
        have hzr := hb0.size
        by_cases hlt : m < row.length
        · obtain ⟨b2, off2, x, rfl, _, hx2, hd, hc2⟩ := (HRD.out.below hb0 (Nat.le_refl _)).at_ hlt
          obtain ⟨x0, x1⟩ := HBD.out x (List.mem_of_getElem? hx2)
          obtain ⟨q, rfl⟩ := Int.eq_ofNat_of_zero_le x0
          have hqn : q < n := by omega
          obtain ⟨b3, off3, y, rfl, _, hy, _, hc4⟩ := (HR.out.below (HB.out.trans (hb0.mono hz2)) (Nat.le_refl _)).at_ hqn
          have hy2 : p.getD q 0 = y := by rw [List.getD_eq_getElem?_getD, hy]; rfl
          have HE : Hid (putAll p (row.drop (m + 1)) (o.set q y) = R) := by
            show _ = _
            have := he.out
            rw [hd, putAll, Int.toNat_natCast, hy2] at this
            exact this
          have HOL : Hid ((o.set q y).length = n) := by show _ = _; rw [List.length_set]; exact hol.out
          have hcell : ∃ u, wr.cell? ⟨w2.heap.size, q, none⟩ = some u := by
            rw [ho.cellAt q (by omega)]
            exact ⟨_, List.getElem?_eq_getElem (by have := ho.1; omega)⟩
          obtain ⟨u, hcell⟩ := hcell
          have hf := ho.frozenAt q
          obtain ⟨ho2, hg2⟩ := ho.stored q (.int .i64 y)
          rw [ints_set] at ho2
          have HO2 := hid ho2
          have HB2 : Hid (Below w2.heap.size w2 (wr.setCell ⟨w2.heap.size, q, none⟩ (.int .i64 y))) := Below.setCell hb0 (Nat.le_refl _) _
          clear he hx2 hd hy hy2 ho ho2 hg2 hol
          go_wp2
          go_roundw
          case rel => exact ⟨m + 1, _, by omega, by go_num, HOL, HE, HO2.out, HB2.out⟩
          case measure => simp [intOf]; omega
        · have he := he.out
          rw [List.drop_eq_nil_of_le (by omega), putAll] at he
          go_wp2
          go_ret2
          rw [hs.out]
          refine ⟨_, rfl, ?_, (by repeat' (first | exact Below.refl _ _ | (with_reducible assumption) | (with_reducible refine Below.alloc ?_ ?_ _) | (with_reducible refine Below.setCell ?_ ?_ _) | (with_reducible refine Below.drew ?_) | (with_reducible refine below_drewN ?_ _) | (refine Below.trans ?_ (Below.mono (by assumption) ?_)) | (with_reducible exact Nat.le_refl _) | (with_reducible assumption) | (exact Below.size (by assumption)) | omega | go_size | (simp at *; omega)))⟩
          show wr.ownsRow _ _ _ _ R.length (ints R)
          rw [← he, hol.out]
          exact own_more ho hz2
    · have k2 : betweenB i 0 (((orbs p).length : Int) - 1) = false := by simpa using k2
      have hs : Hid (rOrbitPattern p i = ([], 2)) := by show _ = _; simp [rOrbitPattern, k, k2]
      generalize orbs p = rows at *
      clear k hr hlen hth
      go_enter Try.func57, Try.ntmps57
      go_wp2_with (first | (go_at_call 64; refine (hV.out).mono ?_; rintro e w1 ⟨rfl, hb1⟩; first | (have hk1 := bchain (by assumption) hb1; obtain ⟨hc1, hf1, hz1, hl1⟩ := bcell hk1) | (obtain ⟨hc1, hf1, hz1, hl1⟩ := bcell hb1)) | (go_at_call 79; refine (between_any _ _ _ _).mono ?_; rintro e w' ⟨rfl, rfl⟩) | (go_at_call 111; refine (HO.out _ ((HR.out.below hb1 (Nat.le_refl _)).more hb1.size)).mono ?_; rintro e w2 ⟨v2, rfl, hG2, hb2⟩; obtain ⟨A2, c2, rfl⟩ := hG2.form))
      go_ret2
      rw [hs.out]
      exact ⟨_, rfl, World.ownsRow_nil _ _ _ _, (by repeat' (first | exact Below.refl _ _ | (with_reducible assumption) | (with_reducible refine Below.alloc ?_ ?_ _) | (with_reducible refine Below.setCell ?_ ?_ _) | (with_reducible refine Below.drew ?_) | (with_reducible refine below_drewN ?_ _) | (refine Below.trans ?_ (Below.mono (by assumption) ?_)) | (with_reducible exact Nat.le_refl _) | (with_reducible assumption) | (exact Below.size (by assumption)) | omega | go_size | (simp at *; omega)))⟩
  · have k : okP p = false := by simpa using k
    rw [k] at hV
    have hV := hid hV
    have hs : Hid (rOrbitPattern p i = ([], 1)) := by show _ = _; simp [rOrbitPattern, k]
    clear k hr
    go_enter Try.func57, Try.ntmps57
    go_wp2_with (first | (go_at_call 64; refine (hV.out).mono ?_; rintro e w1 ⟨rfl, hb1⟩; first | (have hk1 := bchain (by assumption) hb1; obtain ⟨hc1, hf1, hz1, hl1⟩ := bcell hk1) | (obtain ⟨hc1, hf1, hz1, hl1⟩ := bcell hb1)))
    go_ret2
    rw [hs.out]
    exact ⟨_, rfl, World.ownsRow_nil _ _ _ _, (by repeat' (first | exact Below.refl _ _ | (with_reducible assumption) | (with_reducible refine Below.alloc ?_ ?_ _) | (with_reducible refine Below.setCell ?_ ?_ _) | (with_reducible refine Below.drew ?_) | (with_reducible refine below_drewN ?_ _) | (refine Below.trans ?_ (Below.mono (by assumption) ?_)) | (with_reducible exact Nat.le_refl _) | (with_reducible assumption) | (exact Below.size (by assumption)) | omega | go_size | (simp at *; omega)))⟩


end Go.Proofs.Yteaabniemlnjbaa
