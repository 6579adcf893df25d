/- Contracts of the laws' own helpers that copy arguments: multiplex, synchronous and passing patterns, notations. -/
import Derived.Test.YtkglkpohbckpcaaNu
namespace Go.Proofs.Ytkglkpohbckpcaa
open Go.RowKit
set_option linter.unusedVariables false

/-- A slice of slices that is being filled. -/
def GW (w : World) (base : Nat) (v : Value) (n : Nat) (rows : List (List Int)) : Prop :=
  ∃ vs, w.ownsRow base 22 1 v n vs ∧ ∀ (j : Nat) (row : List Int), rows[j]? = some row → ∃ Aj cj, vs[j]? = some (.slice Aj row.length cj) ∧ w.ownsRow base 2 1 (.slice Aj row.length cj) row.length (ints row)
theorem GW.start {w : World} {base n : Nat} {v : Value} {us : List Value} (h : w.ownsRow base 22 1 v n us) (rows : List (List Int)) : GW w base v n (rows.take 0) := ⟨us, h, fun j row h => by simp at h⟩
theorem GW.below {w w' : World} {base n : Nat} {v : Value} {rows : List (List Int)} (h : GW w base v n rows) (hb : Below w.heap.size w w') : GW w' base v n rows := by
  obtain ⟨vs, h1, h2⟩ := h
  refine ⟨vs, own_below h1 hb, fun j row hj => ?_⟩
  obtain ⟨Aj, cj, h3, h4⟩ := h2 j row hj
  exact ⟨Aj, cj, h3, own_below h4 hb⟩
theorem GW.put {w : World} {base n c g k ci : Nat} {Ai : Option Addr} {rows : List (List Int)} {row : List Int} (h : GW w base (.slice (some ⟨g, 0, none⟩) n c) n (rows.take k)) (hk : k < n) (hrow : rows[k]? = some row) (hr : w.ownsRow base 2 1 (.slice Ai row.length ci) row.length (ints row)) :
    (∃ u, w.cell? ⟨g, k, none⟩ = some u) ∧ w.frozen? ⟨g, k, none⟩ = false ∧ GW (w.setCell ⟨g, k, none⟩ (.slice Ai row.length ci)) base (.slice (some ⟨g, 0, none⟩) n c) n (rows.take (k + 1)) := by
  obtain ⟨vs, h1, h2⟩ := h
  have hl := h1.1
  refine ⟨⟨_, (h1.cellAt k (by omega)).trans (List.getElem?_eq_getElem (by omega))⟩, h1.frozenAt k, ?_⟩
  obtain ⟨h3, h4⟩ := h1.stored k (.slice Ai row.length ci)
  refine ⟨_, h3, fun j r hj => ?_⟩
  rw [List.getElem?_take] at hj
  split at hj
  · rename_i hjk
    by_cases hjk2 : j = k
    · subst hjk2
      rw [hrow] at hj
      obtain rfl := Option.some.inj hj
      exact ⟨Ai, ci, by rw [List.getElem?_set_self (by omega)], own_types hr h1 (by decide) h4⟩
    · obtain ⟨Aj, cj, h5, h6⟩ := h2 j r (by rw [List.getElem?_take, if_pos (by omega)]; exact hj)
      exact ⟨Aj, cj, by rw [List.getElem?_set_ne (fun e => hjk2 e.symm)]; exact h5, own_types h6 h1 (by decide) h4⟩
  · cases hj
theorem GW.setq {w : World} {base n : Nat} {v : Value} {rows : List (List Int)} (h : GW w base v n rows) {p : Addr} (hp : p.block < base) (u : Value) : GW (w.setCell p u) base v n rows := by
  obtain ⟨vs, h1, h2⟩ := h
  refine ⟨vs, own_put0 h1 hp u, fun j row hj => ?_⟩
  obtain ⟨Aj, cj, h3, h4⟩ := h2 j row hj
  exact ⟨Aj, cj, h3, own_put0 h4 hp u⟩
theorem GW.more {w : World} {base base' n : Nat} {v : Value} {rows : List (List Int)} (h : GW w base v n rows) (hb : base' ≤ base) : GW w base' v n rows := by
  obtain ⟨vs, h1, h2⟩ := h
  refine ⟨vs, own_more h1 hb, fun j row hj => ?_⟩
  obtain ⟨Aj, cj, h3, h4⟩ := h2 j row hj
  exact ⟨Aj, cj, h3, own_more h4 hb⟩
theorem GW.read {w : World} {base n c : Nat} {A : Option Addr} {rows : List (List Int)} (h : GW w base (.slice A n c) n rows) (hl : rows.length = n) : RdG w w.heap.size A n rows := by
  obtain ⟨vs, h1, h2⟩ := h
  refine ⟨hl, fun h0 => ?_⟩
  obtain ⟨b, off, e, hb, hc⟩ := (Rd.of_own h1).2 h0
  refine ⟨b, off, e, hb, fun j row hj => ?_⟩
  obtain ⟨Aj, cj, h3, h4⟩ := h2 j row hj
  exact ⟨Aj, cj, hc j _ h3, Rd.of_own h4⟩
set_option maxHeartbeats 1000000 in
theorem toInt64SS_any (A : Option Addr) (n c : Nat) (rows : List (List Int)) (w : World) (hn : n ≤ 1099511627776) (hlr : ∀ r ∈ rows, r.length ≤ 1099511627776) (h : RdG w w.heap.size A n rows) :
    Calls Try.prog 172 #[.slice A n c] w fun e w' => (∃ A' c', e = .returned (.slice A' n c') ∧ GW w' w.heap.size (.slice A' n c') n rows) ∧ Below w.heap.size w w' := by
  have HR := hid h
  have HLR := hid hlr
  have hlen := hid h.len
  clear h hlr
  go_enter Try.func172, Try.ntmps172
  go_wp2_with (at_make; refine make_us w.heap.size Try.underlying23 inf_row rfl _ _ rfl .i64 .i64 n rfl rfl hn (by omega) (Nat.le_refl _) ?_; intro us w1 ho1 hb1)
  have hG0 := hid (GW.start ho1 rows)
  clear ho1
  go_loopw [4] (fun i wr => Hid (∃ k : Nat, k ≤ n ∧ i = .int .i64 k ∧ GW wr w.heap.size (.slice (some ⟨w.heap.size, 0, none⟩) n n) n (rows.take k) ∧ Below w.heap.size w wr)) (fun i _ => n - (intOf i).toNat)
  case atStart => exact hid ⟨0, Nat.zero_le _, rfl, hG0.out, hb1⟩
  case round =>
    obtain ⟨k, hk, rfl, hG, hb0⟩ := hrel.out
    clear hrel hG0 hb1
    have hz := hb0.size
    by_cases hlt : k < n
    · obtain ⟨b, off, row, Ai, ci, rfl, hb, hx, hd, hcl, hrow⟩ := HR.out.at_ hlt
      have hcr : wr.cell? ⟨b, off + k, none⟩ = some (.slice Ai row.length ci) := (hb0.cell (p := ⟨b, off + k, none⟩) hb).trans hcl
      have hbw : b < wr.heap.size := by omega
      have hC := hid (toInt64S_any Ai row.length ci row wr (HLR.out row (List.mem_of_getElem? hx)) ((hrow.below hb0 (Nat.le_refl _)).more hz))
      have HX := hid hx
      have HG := hid hG
      clear hx hd hcl hrow hb hG
      go_wp2_with fail
      refine hC.out.mono ?_
      rintro e w2 ⟨v, rfl, ho2, hb2⟩
      obtain ⟨Aj, cj, rfl⟩ := own_form ho2
      obtain ⟨⟨u, hcu⟩, hfu, hG2⟩ := (HG.out.below hb2).put hlt HX.out (own_more ho2 hz)
      have HG2 := hid hG2
      have hz2 := Nat.le_trans hz hb2.size
      have hb3 : Below w.heap.size w w2 := bchain hb0 hb2
      clear hC HG hG2 ho2 hb2 hcr
      go_wp2
      go_roundw
      case rel => exact hid ⟨k + 1, by omega, by go_num, HG2.out, (by repeat' (first | exact Below.refl _ _ | (with_reducible assumption) | (with_reducible refine Below.alloc ?_ ?_ _) | (with_reducible refine Below.setCell ?_ ?_ _) | (with_reducible refine Below.drew ?_) | (with_reducible refine below_drewN ?_ _) | (refine Below.trans ?_ (Below.mono (by assumption) ?_)) | (with_reducible exact Nat.le_refl _) | (with_reducible assumption) | (exact Below.size (by assumption)) | omega | go_size | (simp at *; omega)))⟩
      case measure => simp [intOf]; omega
    · have hkn : k = n := by omega
      rw [List.take_of_length_le (by rw [hlen.out]; omega)] at hG
      have HRD := hid hG
      clear hG hkn
      go_wp2
      go_ret
      exact ⟨⟨_, _, rfl, HRD.out⟩, hb0⟩
set_option maxHeartbeats 1000000 in
theorem toMulti_any (A : Option Addr) (n c : Nat) (rows : List (List Int)) (w : World) (hn : n ≤ 1099511627776) (hlr : ∀ r ∈ rows, r.length ≤ 1099511627776) (h : RdG w w.heap.size A n rows) :
    Calls Try.prog 86 #[.agg #[.slice A n c]] w fun e w' => (∃ A' c', e = .returned (.agg #[.slice A' n c']) ∧ GW w' w.heap.size (.slice A' n c') n rows) ∧ Below w.heap.size w w' := by
  obtain ⟨W, hW⟩ : ∃ W, ((w.alloc (Obj.cells #[.slice A n c] 25)).alloc (Obj.cells #[.slice none 0 0] 34)).alloc (Obj.cells #[.slice none 0 0] 34) = W := ⟨_, rfl⟩
  have hbW : Below w.heap.size w W := by rw [← hW]; exact (by repeat' (first | exact Below.refl _ _ | (with_reducible assumption) | (with_reducible refine Below.alloc ?_ ?_ _) | (with_reducible refine Below.setCell ?_ ?_ _) | (with_reducible refine Below.drew ?_) | (with_reducible refine below_drewN ?_ _) | (refine Below.trans ?_ (Below.mono (by assumption) ?_)) | (with_reducible exact Nat.le_refl _) | (with_reducible assumption) | (exact Below.size (by assumption)) | omega | go_size | (simp at *; omega)))
  have hC := toInt64SS_any A n c rows W hn hlr ((h.below hbW (Nat.le_refl _)).more hbW.size)
  have hZ : W.heap.size = w.heap.size + 3 := by rw [← hW]; simp
  have hX : Bx W (w.heap.size + 1) 34 #[.slice none 0 0] := by
    rw [← hW]
    have := Bx.new (w.alloc (Obj.cells #[.slice A n c] 25)) 34 #[.slice none 0 0]
    rw [show (w.alloc (Obj.cells #[.slice A n c] 25)).heap.size = w.heap.size + 1 by simp] at this
    exact this.alloc _
  have hY : Bx W (w.heap.size + 2) 34 #[.slice none 0 0] := by
    rw [← hW]
    have := Bx.new ((w.alloc (Obj.cells #[.slice A n c] 25)).alloc (Obj.cells #[.slice none 0 0] 34)) 34 #[.slice none 0 0]
    rw [show ((w.alloc (Obj.cells #[.slice A n c] 25)).alloc (Obj.cells #[.slice none 0 0] 34)).heap.size = w.heap.size + 2 by simp] at this
    exact this
  rw [← hW] at hC
  have HC := hid hC
  have HBW := hid hbW
  have HX := hid hX
  have HY := hid hY
  have HZ := hid hZ
  have HW := hid hW
  clear hC hbW hX hY hZ hW h hlr
  go_enter Try.func86, Try.ntmps86
  go_wp2_with fail
  refine HC.out.mono ?_
  rw [HW.out]
  rintro e w1 ⟨⟨A', c', rfl, hrd⟩, hb1⟩
  rw [HZ.out] at hrd
  have HRD := hid hrd
  have z1 := hb1.size
  rw [HZ.out] at z1
  have hX1 := HX.out.below hb1 (by rw [HZ.out]; omega)
  have hY1 := HY.out.below hb1 (by rw [HZ.out]; omega)
  have hB1 := HBW.out.trans (hb1.mono HBW.out.size)
  have a0 : w1.cell? ⟨w.heap.size + 1, 0, none⟩ = some (.slice none 0 0) := hX1.cell 0
  have b0 : w1.cell? ⟨w.heap.size + 2, 0, none⟩ = some (.slice none 0 0) := hY1.cell 0
  have f0 := hX1.frozen 0
  have g0 := hY1.frozen 0
  have l1 : w.heap.size + 1 < w1.heap.size := by omega
  have l2 : w.heap.size + 2 < w1.heap.size := by omega
  clear hrd hb1 HC HBW HX HY HZ HW hX1 hY1
  go_wp2
  refine bodyPost_ret (v := .agg #[.slice A' n c']) ?_ rfl ?_
  · simp (maxDischargeDepth := 8) [results, Try.results86, go_sem, *]
  refine ⟨⟨A', c', rfl, ?_⟩, (by repeat' (first | exact Below.refl _ _ | (with_reducible assumption) | (with_reducible refine Below.alloc ?_ ?_ _) | (with_reducible refine Below.setCell ?_ ?_ _) | (with_reducible refine Below.drew ?_) | (with_reducible refine below_drewN ?_ _) | (refine Below.trans ?_ (Below.mono (by assumption) ?_)) | (with_reducible exact Nat.le_refl _) | (with_reducible assumption) | (exact Below.size (by assumption)) | omega | go_size | (simp at *; omega)))⟩
  refine GW.more (base := w.heap.size + 3) ?_ (by omega)
  repeat' (first | (with_reducible exact HRD.out) | (with_reducible refine GW.setq ?_ ?_ _) | (show w.heap.size + 1 < _; omega) | (show w.heap.size + 2 < _; omega))
end Go.Proofs.Ytkglkpohbckpcaa
