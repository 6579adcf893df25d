/- Contracts of the laws' own helpers over beats, throws of passing patterns, multiplex and passing patterns: compare, mark, look again. -/
import Derived.Test.YtkglkpohbckpcaaGl
import Derived.Test.YtkglkpohbckpcaaYs
import Derived.Test.YtkglkpohbckpcaaQs
import Derived.Test.YtkglkpohbckpcaaQa
namespace Go.Proofs.Ytkglkpohbckpcaa
open Go.RowKit
set_option linter.unusedVariables false

theorem eqSyncThrow_same (x : Int) (c : Bool) (w : World) : Calls Try.prog 221 #[.agg #[.int .i64 x, .bool c], .agg #[.int .i64 x, .bool c]] w fun e w' => e = .returned (.bool true) ∧ Below w.heap.size w w' := by
  go_enter Try.func221, Try.ntmps221
  go_wp2
  go_ret
  exact ⟨rfl, (by repeat' (first | exact Below.refl _ _ | (with_reducible assumption) | (with_reducible refine Below.alloc ?_ ?_ _) | (with_reducible refine Below.setCell ?_ ?_ _) | (with_reducible refine Below.drew ?_) | (with_reducible refine below_drewN ?_ _) | (refine Below.trans ?_ (Below.mono (by assumption) ?_)) | (with_reducible exact Nat.le_refl _) | (with_reducible assumption) | (exact Below.size (by assumption)) | omega | go_size | (simp at *; omega)))⟩
set_option maxHeartbeats 1000000 in
theorem eqSyncBeat_same (b : Beat) (w : World) : Calls Try.prog 178 #[.agg #[.int .i64 b.1.1, .bool b.1.2, .int .i64 b.2.1, .bool b.2.2], .agg #[.int .i64 b.1.1, .bool b.1.2, .int .i64 b.2.1, .bool b.2.2]] w fun e w' => e = .returned (.bool true) ∧ Below w.heap.size w w' := by
  obtain ⟨⟨x, c⟩, ⟨y, d⟩⟩ := b
  have h1 := hid (eqSyncThrow_same x c)
  have h2 := hid (eqSyncThrow_same y d)
  have hX := (Bx.new w 162 #[.int .i64 x, .bool c, .int .i64 y, .bool d]).alloc (Obj.cells #[.int .i64 x, .bool c, .int .i64 y, .bool d] 162)
  have hY := Bx.new (w.alloc (Obj.cells #[.int .i64 x, .bool c, .int .i64 y, .bool d] 162)) 162 #[.int .i64 x, .bool c, .int .i64 y, .bool d]
  have hz : (w.alloc (Obj.cells #[.int .i64 x, .bool c, .int .i64 y, .bool d] 162)).heap.size = w.heap.size + 1 := by simp
  rw [hz] at hY
  clear hz
  go_enter Try.func178, Try.ntmps178
  go_wp2_with fail
  refine (h1.out _).mono ?_
  rintro e w1 ⟨rfl, hb1⟩
  have hX1 := hX.below hb1 hX.lt
  have hY1 := hY.below hb1 hY.lt
  have hB1 : Below w.heap.size w w1 := (by repeat' (first | exact Below.refl _ _ | (with_reducible assumption) | (with_reducible refine Below.alloc ?_ ?_ _) | (with_reducible refine Below.setCell ?_ ?_ _) | (with_reducible refine Below.drew ?_) | (with_reducible refine below_drewN ?_ _) | (refine Below.trans ?_ (Below.mono (by assumption) ?_)) | (with_reducible exact Nat.le_refl _) | (with_reducible assumption) | (exact Below.size (by assumption)) | omega | go_size | (simp at *; omega)))
  have a0 : w1.cell? ⟨w.heap.size, 2, none⟩ = some (.int .i64 y) := hX1.cell 2
  have a1 : w1.cell? ⟨w.heap.size, 3, none⟩ = some (.bool d) := hX1.cell 3
  have b0 : w1.cell? ⟨w.heap.size + 1, 2, none⟩ = some (.int .i64 y) := hY1.cell 2
  have b1 : w1.cell? ⟨w.heap.size + 1, 3, none⟩ = some (.bool d) := hY1.cell 3
  clear hX hY hX1 hY1 hb1 h1
  go_wp2_with fail
  refine (h2.out _).mono ?_
  rintro e w2 ⟨rfl, hb2⟩
  have hB2 := bchain hB1 hb2
  clear h2 hb2 a0 a1 b0 b1
  go_wp2
  go_ret
  exact ⟨rfl, hB2⟩
set_option maxRecDepth 100000 in
set_option maxHeartbeats 1000000 in
theorem eqSyncBeatS_same (A A' : Option Addr) (n c c' : Nat) (q : List Beat) (w : World) (hn : n ≤ 1099511627776) (k : Rd w w.heap.size 4 A n (bts q)) (k' : Rd w w.heap.size 4 A' n (bts q)) :
    Calls Try.prog 95 #[.slice A n c, .slice A' n c'] w fun e w' => e = .returned (.bool true) ∧ Below w.heap.size w w' := by
  have K := hid k
  have K' := hid k'
  clear k k'
  go_enter Try.func95, Try.ntmps95
  go_wp2
  go_loopw [5] (fun i wr => Hid (∃ k : Nat, k ≤ n ∧ i = .int .i64 k ∧ Below w.heap.size w wr)) (fun i _ => n - (intOf i).toNat)
  case atStart => exact hid ⟨0, Nat.zero_le _, rfl, Below.refl _ _⟩
  case round =>
    obtain ⟨i, hi, rfl, hb0⟩ := hrel.out
    clear hrel
    by_cases hlt : i < n
    · obtain ⟨b, off, x, rfl, hb, hx, _, c0, c1, c2, c3⟩ := (K.out.below hb0 (Nat.le_refl _)).bt_at hlt
      obtain ⟨b', off', x', rfl, hb', hx', _, d0, d1, d2, d3⟩ := (K'.out.below hb0 (Nat.le_refl _)).bt_at hlt
      obtain rfl : x = x' := by rw [hx] at hx'; exact Option.some.inj hx'
      have HE := hid (eqSyncBeat_same x)
      clear hx hx' hb hb'
      go_wp2
      go_still_tail 8, (by kernel_rfl)
      change wpList _ _ _ _ _ wr.drew
      have hb1 : Below w.heap.size w wr.drew := hb0.drew
      generalize wr.drew = w2 at *
      go_wp2_with (go_at_call 178; refine (HE.out _).mono ?_; rintro e w3 ⟨rfl, hb2⟩)
      go_roundw
      case rel => exact hid ⟨i + 1, by omega, by go_num, (by repeat' (first | exact Below.refl _ _ | (with_reducible assumption) | (with_reducible refine Below.alloc ?_ ?_ _) | (with_reducible refine Below.setCell ?_ ?_ _) | (with_reducible refine Below.drew ?_) | (with_reducible refine below_drewN ?_ _) | (refine Below.trans ?_ (Below.mono (by assumption) ?_)) | (with_reducible exact Nat.le_refl _) | (with_reducible assumption) | (exact Below.size (by assumption)) | omega | go_size | (simp at *; omega)))⟩
      case measure => simp [intOf]; omega
    · go_wp2
      go_ret
      exact ⟨rfl, hb0⟩
theorem eqPassThrow_same (x : Int) (c : Bool) (w : World) : Calls Try.prog 222 #[.agg #[.int .i64 x, .bool c], .agg #[.int .i64 x, .bool c]] w fun e w' => e = .returned (.bool true) ∧ Below w.heap.size w w' := by
  go_enter Try.func222, Try.ntmps222
  go_wp2
  go_ret
  exact ⟨rfl, (by repeat' (first | exact Below.refl _ _ | (with_reducible assumption) | (with_reducible refine Below.alloc ?_ ?_ _) | (with_reducible refine Below.setCell ?_ ?_ _) | (with_reducible refine Below.drew ?_) | (with_reducible refine below_drewN ?_ _) | (refine Below.trans ?_ (Below.mono (by assumption) ?_)) | (with_reducible exact Nat.le_refl _) | (with_reducible assumption) | (exact Below.size (by assumption)) | omega | go_size | (simp at *; omega)))⟩
set_option maxRecDepth 100000 in
set_option maxHeartbeats 1000000 in
theorem eqPassThrowS_same (A A' : Option Addr) (n c c' : Nat) (q : List PT) (w : World) (hn : n ≤ 1099511627776) (k : Rd w w.heap.size 2 A n (ths q)) (k' : Rd w w.heap.size 2 A' n (ths q)) :
    Calls Try.prog 179 #[.slice A n c, .slice A' n c'] w fun e w' => e = .returned (.bool true) ∧ Below w.heap.size w w' := by
  have K := hid k
  have K' := hid k'
  clear k k'
  go_enter Try.func179, Try.ntmps179
  go_wp2
  go_loopw [5] (fun i wr => Hid (∃ k : Nat, k ≤ n ∧ i = .int .i64 k ∧ Below w.heap.size w wr)) (fun i _ => n - (intOf i).toNat)
  case atStart => exact hid ⟨0, Nat.zero_le _, rfl, Below.refl _ _⟩
  case round =>
    obtain ⟨i, hi, rfl, hb0⟩ := hrel.out
    clear hrel
    by_cases hlt : i < n
    · obtain ⟨b, off, x, rfl, hb, hx, _, c0, c1⟩ := (K.out.below hb0 (Nat.le_refl _)).th_at hlt
      obtain ⟨b', off', x', rfl, hb', hx', _, d0, d1⟩ := (K'.out.below hb0 (Nat.le_refl _)).th_at hlt
      obtain rfl : x = x' := by rw [hx] at hx'; exact Option.some.inj hx'
      have HE := hid (eqPassThrow_same x.1 x.2)
      clear hx hx' hb hb'
      go_wp2
      go_still_tail 8, (by kernel_rfl)
      change wpList _ _ _ _ _ wr.drew
      have hb1 : Below w.heap.size w wr.drew := hb0.drew
      generalize wr.drew = w2 at *
      go_wp2_with (go_at_call 222; refine (HE.out _).mono ?_; rintro e w3 ⟨rfl, hb2⟩)
      go_roundw
      case rel => exact hid ⟨i + 1, by omega, by go_num, (by repeat' (first | exact Below.refl _ _ | (with_reducible assumption) | (with_reducible refine Below.alloc ?_ ?_ _) | (with_reducible refine Below.setCell ?_ ?_ _) | (with_reducible refine Below.drew ?_) | (with_reducible refine below_drewN ?_ _) | (refine Below.trans ?_ (Below.mono (by assumption) ?_)) | (with_reducible exact Nat.le_refl _) | (with_reducible assumption) | (exact Below.size (by assumption)) | omega | go_size | (simp at *; omega)))⟩
      case measure => simp [intOf]; omega
    · go_wp2
      go_ret
      exact ⟨rfl, hb0⟩
theorem gr_two {w w1 w2 : World} {r : Option Nat} (hg : w.grownBy w1 r) (hg2 : w1.grownBy w2 r) : w.grownBy w2 r :=
  ⟨hg2.os.trans hg.os, hg2.tape.trans hg.tape, hg2.output.trans hg.output, Nat.le_trans hg.size hg2.size, fun j hj hne => (hg2.block j (Nat.lt_of_lt_of_le hj hg.size) hne).trans (hg.block j hj hne)⟩
/-- Marks. -/
def mkT (K : Int) : Int × Bool := (K, ((K + 1).tmod 3 == 0))
def mkBt (K : Int) : Beat := (mkT K, mkT (K + 2))
def mkB (k0 : Int) : Nat → List Beat
  | 0 => []
  | n + 1 => mkB k0 n ++ [mkBt (k0 + 4 * (n : Int))]
def mkP (k0 : Int) : Nat → List (Int × Bool)
  | 0 => []
  | n + 1 => mkP k0 n ++ [mkT (k0 + 2 * (n : Int))]
theorem mkB_len (k0 : Int) (n : Nat) : (mkB k0 n).length = n := by induction n with | zero => rfl | succ n ih => simp [mkB, ih]
theorem mkP_len (k0 : Int) (n : Nat) : (mkP k0 n).length = n := by induction n with | zero => rfl | succ n ih => simp [mkP, ih]
theorem mkB_at (k0 : Int) : ∀ (n i : Nat) (x : Beat), (mkB k0 n)[i]? = some x → x = mkBt (k0 + 4 * (i : Int)) := by
  intro n
  induction n with
  | zero => intro i x h; simp [mkB] at h
  | succ n ih =>
    intro i x h
    rcases Nat.lt_or_ge i n with hl | hl
    · rw [mkB, List.getElem?_append_left (by rw [mkB_len]; exact hl)] at h; exact ih i x h
    · rw [mkB, List.getElem?_append_right (by rw [mkB_len]; exact hl), mkB_len] at h
      have : i - n = 0 := by
        rcases Nat.eq_zero_or_pos (i - n) with h0 | h0
        · exact h0
        · rw [List.getElem?_eq_none (by simp; omega)] at h; cases h
      rw [this] at h
      simp at h
      obtain rfl : i = n := by omega
      exact h.symm
theorem mkP_at (k0 : Int) : ∀ (n i : Nat) (x : Int × Bool), (mkP k0 n)[i]? = some x → x = mkT (k0 + 2 * (i : Int)) := by
  intro n
  induction n with
  | zero => intro i x h; simp [mkP] at h
  | succ n ih =>
    intro i x h
    rcases Nat.lt_or_ge i n with hl | hl
    · rw [mkP, List.getElem?_append_left (by rw [mkP_len]; exact hl)] at h; exact ih i x h
    · rw [mkP, List.getElem?_append_right (by rw [mkP_len]; exact hl), mkP_len] at h
      have : i - n = 0 := by
        rcases Nat.eq_zero_or_pos (i - n) with h0 | h0
        · exact h0
        · rw [List.getElem?_eq_none (by simp; omega)] at h; cases h
      rw [this] at h
      simp at h
      obtain rfl : i = n := by omega
      exact h.symm
theorem sets4 {P us : List Value} {m : Nat} (hP : P.length = m) (hu : m + 4 ≤ us.length) (a b c d : Value) :
    ((((P ++ us.drop m).set m a).set (m + 1) b).set (m + 2) c).set (m + 3) d = P ++ [a, b, c, d] ++ us.drop (m + 4) := by
  rw [List.drop_eq_getElem_cons (show m < us.length by omega), List.drop_eq_getElem_cons (show m + 1 < us.length by omega), List.drop_eq_getElem_cons (show m + 1 + 1 < us.length by omega), List.drop_eq_getElem_cons (show m + 1 + 1 + 1 < us.length by omega)]
  subst hP
  rw [List.set_append_right _ _ (by omega), List.set_append_right _ _ (by omega), List.set_append_right _ _ (by omega), List.set_append_right _ _ (by omega), Nat.sub_self, Nat.add_sub_cancel_left, Nat.add_sub_cancel_left, Nat.add_sub_cancel_left]
  simp only [List.set_cons_zero, List.set_cons_succ, List.append_assoc, List.cons_append, List.nil_append]
theorem sets2 {P us : List Value} {m : Nat} (hP : P.length = m) (hu : m + 2 ≤ us.length) (a b : Value) :
    ((P ++ us.drop m).set m a).set (m + 1) b = P ++ [a, b] ++ us.drop (m + 2) := by
  rw [List.drop_eq_getElem_cons (show m < us.length by omega), List.drop_eq_getElem_cons (show m + 1 < us.length by omega)]
  subst hP
  rw [List.set_append_right _ _ (by omega), List.set_append_right _ _ (by omega), Nat.sub_self, Nat.add_sub_cancel_left]
  simp only [List.set_cons_zero, List.set_cons_succ, List.append_assoc, List.cons_append, List.nil_append]
theorem bts_mk (k0 : Int) (j : Nat) : bts (mkB k0 (j + 1)) = bts (mkB k0 j) ++ btC (mkBt (k0 + 4 * (j : Int))) := by rw [mkB, bts_snoc]
theorem ths_mk (k0 : Int) (j : Nat) : ths (mkP k0 (j + 1)) = ths (mkP k0 j) ++ thc (mkT (k0 + 2 * (j : Int))) := by rw [mkP, ths_snoc]
end Go.Proofs.Ytkglkpohbckpcaa
