/- Contracts of the laws' own helpers over beats, throws of passing patterns, multiplex and passing patterns: compare, mark, look again. -/
import Derived.Test.YtkglkpohbckpcaaGreatGl
import Derived.Test.YtkglkpohbckpcaaGreatYs
import Derived.Test.YtkglkpohbckpcaaGreatQs
import Derived.Test.YtkglkpohbckpcaaGreatQa
namespace Go.Proofs.YtkglkpohbckpcaaGreat
open Go.RowKit
set_option linter.unusedVariables false

theorem eqSyncThrow_same (x : Int) (c : Bool) (w : World) : Calls Tryz.prog 127 #[.agg #[.int .i64 x, .bool c], .agg #[.int .i64 x, .bool c]] w fun e w' => e = .returned (.bool true) ∧ Below w.heap.size w w' := by
  go_enter Tryz.func127, Tryz.ntmps127
  go_wp2
  go_ret
  exact ⟨rfl, (by repeat' (first | exact Below.refl _ _ | (with_reducible assumption) | (with_reducible refine Below.alloc ?_ ?_ _) | (with_reducible refine Below.setCell ?_ ?_ _) | (with_reducible refine Below.drew ?_) | (with_reducible refine below_drewN ?_ _) | (refine Below.trans ?_ (Below.mono (by assumption) ?_)) | (with_reducible exact Nat.le_refl _) | (with_reducible assumption) | (exact Below.size (by assumption)) | omega | go_size | (simp at *; omega)))⟩
set_option maxHeartbeats 1000000 in
theorem eqSyncBeat_same (b : Beat) (w : World) : Calls Tryz.prog 85 #[.agg #[.int .i64 b.1.1, .bool b.1.2, .int .i64 b.2.1, .bool b.2.2], .agg #[.int .i64 b.1.1, .bool b.1.2, .int .i64 b.2.1, .bool b.2.2]] w fun e w' => e = .returned (.bool true) ∧ Below w.heap.size w w' := by
  obtain ⟨⟨x, c⟩, ⟨y, d⟩⟩ := b
  have h1 := hid (eqSyncThrow_same x c)
  have h2 := hid (eqSyncThrow_same y d)
  have hX := (Bx.new w 100 #[.int .i64 x, .bool c, .int .i64 y, .bool d]).alloc (Obj.cells #[.int .i64 x, .bool c, .int .i64 y, .bool d] 100)
  have hY := Bx.new (w.alloc (Obj.cells #[.int .i64 x, .bool c, .int .i64 y, .bool d] 100)) 100 #[.int .i64 x, .bool c, .int .i64 y, .bool d]
  have hz : (w.alloc (Obj.cells #[.int .i64 x, .bool c, .int .i64 y, .bool d] 100)).heap.size = w.heap.size + 1 := by simp
  rw [hz] at hY
  clear hz
  go_enter Tryz.func85, Tryz.ntmps85
  go_wp2_with fail
  refine (h1.out _).mono ?_
  rintro e w1 ⟨rfl, hb1⟩
  have hX1 := hX.below hb1 hX.lt
  have hY1 := hY.below hb1 hY.lt
  have hB1 : Below w.heap.size w w1 := (by repeat' (first | exact Below.refl _ _ | (with_reducible assumption) | (with_reducible refine Below.alloc ?_ ?_ _) | (with_reducible refine Below.setCell ?_ ?_ _) | (with_reducible refine Below.drew ?_) | (with_reducible refine below_drewN ?_ _) | (refine Below.trans ?_ (Below.mono (by assumption) ?_)) | (with_reducible exact Nat.le_refl _) | (with_reducible assumption) | (exact Below.size (by assumption)) | omega | go_size | (simp at *; omega)))
  have a0 : w1.cell? ⟨w.heap.size, 2, none⟩ = some (.int .i64 y) := hX1.cell 2
  have a1 : w1.cell? ⟨w.heap.size, 3, none⟩ = some (.bool d) := hX1.cell 3
  have b0 : w1.cell? ⟨w.heap.size + 1, 2, none⟩ = some (.int .i64 y) := hY1.cell 2
  have b1 : w1.cell? ⟨w.heap.size + 1, 3, none⟩ = some (.bool d) := hY1.cell 3
  clear hX hY hX1 hY1 hb1 h1
  go_wp2_with fail
  refine (h2.out _).mono ?_
  rintro e w2 ⟨rfl, hb2⟩
  have hB2 := bchain hB1 hb2
  clear h2 hb2 a0 a1 b0 b1
  go_wp2
  go_ret
  exact ⟨rfl, hB2⟩
set_option maxRecDepth 100000 in
set_option maxHeartbeats 1000000 in
theorem eqSyncBeatS_same (A A' : Option Addr) (n c c' : Nat) (q : List Beat) (w : World) (hn : n ≤ 1099511627776) (k : Rd w w.heap.size 4 A n (bts q)) (k' : Rd w w.heap.size 4 A' n (bts q)) :
    Calls Tryz.prog 34 #[.slice A n c, .slice A' n c'] w fun e w' => e = .returned (.bool true) ∧ Below w.heap.size w w' := by
  have K := hid k
  have K' := hid k'
  clear k k'
  go_enter Tryz.func34, Tryz.ntmps34
  go_wp2
  go_loopw [5] (fun i wr => Hid (∃ k : Nat, k ≤ n ∧ i = .int .i64 k ∧ Below w.heap.size w wr)) (fun i _ => n - (intOf i).toNat)
  case atStart => exact hid ⟨0, Nat.zero_le _, rfl, Below.refl _ _⟩
  case round =>
    obtain ⟨i, hi, rfl, hb0⟩ := hrel.out
    clear hrel
    by_cases hlt : i < n
    · obtain ⟨b, off, x, rfl, hb, hx, _, c0, c1, c2, c3⟩ := (K.out.below hb0 (Nat.le_refl _)).bt_at hlt
      obtain ⟨b', off', x', rfl, hb', hx', _, d0, d1, d2, d3⟩ := (K'.out.below hb0 (Nat.le_refl _)).bt_at hlt
      obtain rfl : x = x' := by rw [hx] at hx'; exact Option.some.inj hx'
      have HE := hid (eqSyncBeat_same x)
      clear hx hx' hb hb'
      go_wp2
      go_still_tail 8, (by kernel_rfl)
      change wpList _ _ _ _ _ wr.drew
      have hb1 : Below w.heap.size w wr.drew := hb0.drew
      generalize wr.drew = w2 at *
      go_wp2_with (go_at_call 85; refine (HE.out _).mono ?_; rintro e w3 ⟨rfl, hb2⟩)
      go_roundw
      case rel => exact hid ⟨i + 1, by omega, by go_num, (by repeat' (first | exact Below.refl _ _ | (with_reducible assumption) | (with_reducible refine Below.alloc ?_ ?_ _) | (with_reducible refine Below.setCell ?_ ?_ _) | (with_reducible refine Below.drew ?_) | (with_reducible refine below_drewN ?_ _) | (refine Below.trans ?_ (Below.mono (by assumption) ?_)) | (with_reducible exact Nat.le_refl _) | (with_reducible assumption) | (exact Below.size (by assumption)) | omega | go_size | (simp at *; omega)))⟩
      case measure => simp [intOf]; omega
    · go_wp2
      go_ret
      exact ⟨rfl, hb0⟩
theorem eqPassThrow_same (x : Int) (c : Bool) (w : World) : Calls Tryz.prog 128 #[.agg #[.int .i64 x, .bool c], .agg #[.int .i64 x, .bool c]] w fun e w' => e = .returned (.bool true) ∧ Below w.heap.size w w' := by
  go_enter Tryz.func128, Tryz.ntmps128
  go_wp2
  go_ret
  exact ⟨rfl, (by repeat' (first | exact Below.refl _ _ | (with_reducible assumption) | (with_reducible refine Below.alloc ?_ ?_ _) | (with_reducible refine Below.setCell ?_ ?_ _) | (with_reducible refine Below.drew ?_) | (with_reducible refine below_drewN ?_ _) | (refine Below.trans ?_ (Below.mono (by assumption) ?_)) | (with_reducible exact Nat.le_refl _) | (with_reducible assumption) | (exact Below.size (by assumption)) | omega | go_size | (simp at *; omega)))⟩
set_option maxRecDepth 100000 in
set_option maxHeartbeats 1000000 in
theorem eqPassThrowS_same (A A' : Option Addr) (n c c' : Nat) (q : List PT) (w : World) (hn : n ≤ 1099511627776) (k : Rd w w.heap.size 2 A n (ths q)) (k' : Rd w w.heap.size 2 A' n (ths q)) :
    Calls Tryz.prog 86 #[.slice A n c, .slice A' n c'] w fun e w' => e = .returned (.bool true) ∧ Below w.heap.size w w' := by
  have K := hid k
  have K' := hid k'
  clear k k'
  go_enter Tryz.func86, Tryz.ntmps86
  go_wp2
  go_loopw [5] (fun i wr => Hid (∃ k : Nat, k ≤ n ∧ i = .int .i64 k ∧ Below w.heap.size w wr)) (fun i _ => n - (intOf i).toNat)
  case atStart => exact hid ⟨0, Nat.zero_le _, rfl, Below.refl _ _⟩
  case round =>
    obtain ⟨i, hi, rfl, hb0⟩ := hrel.out
    clear hrel
    by_cases hlt : i < n
    · obtain ⟨b, off, x, rfl, hb, hx, _, c0, c1⟩ := (K.out.below hb0 (Nat.le_refl _)).th_at hlt
      obtain ⟨b', off', x', rfl, hb', hx', _, d0, d1⟩ := (K'.out.below hb0 (Nat.le_refl _)).th_at hlt
      obtain rfl : x = x' := by rw [hx] at hx'; exact Option.some.inj hx'
      have HE := hid (eqPassThrow_same x.1 x.2)
      clear hx hx' hb hb'
      go_wp2
      go_still_tail 8, (by kernel_rfl)
      change wpList _ _ _ _ _ wr.drew
      have hb1 : Below w.heap.size w wr.drew := hb0.drew
      generalize wr.drew = w2 at *
      go_wp2_with (go_at_call 128; refine (HE.out _).mono ?_; rintro e w3 ⟨rfl, hb2⟩)
      go_roundw
      case rel => exact hid ⟨i + 1, by omega, by go_num, (by repeat' (first | exact Below.refl _ _ | (with_reducible assumption) | (with_reducible refine Below.alloc ?_ ?_ _) | (with_reducible refine Below.setCell ?_ ?_ _) | (with_reducible refine Below.drew ?_) | (with_reducible refine below_drewN ?_ _) | (refine Below.trans ?_ (Below.mono (by assumption) ?_)) | (with_reducible exact Nat.le_refl _) | (with_reducible assumption) | (exact Below.size (by assumption)) | omega | go_size | (simp at *; omega)))⟩
      case measure => simp [intOf]; omega
    · go_wp2
      go_ret
      exact ⟨rfl, hb0⟩
theorem gr_two {w w1 w2 : World} {r : Option Nat} (hg : w.grownBy w1 r) (hg2 : w1.grownBy w2 r) : w.grownBy w2 r :=
  ⟨hg2.os.trans hg.os, hg2.tape.trans hg.tape, hg2.output.trans hg.output, Nat.le_trans hg.size hg2.size, fun j hj hne => (hg2.block j (Nat.lt_of_lt_of_le hj hg.size) hne).trans (hg.block j hj hne)⟩
/-- Marks. -/
def mkT (K : Int) : Int × Bool := (K, ((K + 1).tmod 3 == 0))
def mkBt (K : Int) : Beat := (mkT K, mkT (K + 2))
def mkB (k0 : Int) : Nat → List Beat
  | 0 => []
  | n + 1 => mkB k0 n ++ [mkBt (k0 + 4 * (n : Int))]
def mkP (k0 : Int) : Nat → List (Int × Bool)
  | 0 => []
  | n + 1 => mkP k0 n ++ [mkT (k0 + 2 * (n : Int))]
theorem mkB_len (k0 : Int) (n : Nat) : (mkB k0 n).length = n := by induction n with | zero => rfl | succ n ih => simp [mkB, ih]
theorem mkP_len (k0 : Int) (n : Nat) : (mkP k0 n).length = n := by induction n with | zero => rfl | succ n ih => simp [mkP, ih]
theorem mkB_at (k0 : Int) : ∀ (n i : Nat) (x : Beat), (mkB k0 n)[i]? = some x → x = mkBt (k0 + 4 * (i : Int)) := by
  intro n
  induction n with
  | zero => intro i x h; simp [mkB] at h
  | succ n ih =>
    intro i x h
    rcases Nat.lt_or_ge i n with hl | hl
    · rw [mkB, List.getElem?_append_left (by rw [mkB_len]; exact hl)] at h; exact ih i x h
    · rw [mkB, List.getElem?_append_right (by rw [mkB_len]; exact hl), mkB_len] at h
      have : i - n = 0 := by
        rcases Nat.eq_zero_or_pos (i - n) with h0 | h0
        · exact h0
        · rw [List.getElem?_eq_none (by simp; omega)] at h; cases h
      rw [this] at h
      simp at h
      obtain rfl : i = n := by omega
      exact h.symm
theorem mkP_at (k0 : Int) : ∀ (n i : Nat) (x : Int × Bool), (mkP k0 n)[i]? = some x → x = mkT (k0 + 2 * (i : Int)) := by
  intro n
  induction n with
  | zero => intro i x h; simp [mkP] at h
  | succ n ih =>
    intro i x h
    rcases Nat.lt_or_ge i n with hl | hl
    · rw [mkP, List.getElem?_append_left (by rw [mkP_len]; exact hl)] at h; exact ih i x h
    · rw [mkP, List.getElem?_append_right (by rw [mkP_len]; exact hl), mkP_len] at h
      have : i - n = 0 := by
        rcases Nat.eq_zero_or_pos (i - n) with h0 | h0
        · exact h0
        · rw [List.getElem?_eq_none (by simp; omega)] at h; cases h
      rw [this] at h
      simp at h
      obtain rfl : i = n := by omega
      exact h.symm
theorem sets4 {P us : List Value} {m : Nat} (hP : P.length = m) (hu : m + 4 ≤ us.length) (a b c d : Value) :
    ((((P ++ us.drop m).set m a).set (m + 1) b).set (m + 2) c).set (m + 3) d = P ++ [a, b, c, d] ++ us.drop (m + 4) := by
  rw [List.drop_eq_getElem_cons (show m < us.length by omega), List.drop_eq_getElem_cons (show m + 1 < us.length by omega), List.drop_eq_getElem_cons (show m + 1 + 1 < us.length by omega), List.drop_eq_getElem_cons (show m + 1 + 1 + 1 < us.length by omega)]
  subst hP
  rw [List.set_append_right _ _ (by omega), List.set_append_right _ _ (by omega), List.set_append_right _ _ (by omega), List.set_append_right _ _ (by omega), Nat.sub_self, Nat.add_sub_cancel_left, Nat.add_sub_cancel_left, Nat.add_sub_cancel_left]
  simp only [List.set_cons_zero, List.set_cons_succ, List.append_assoc, List.cons_append, List.nil_append]
theorem sets2 {P us : List Value} {m : Nat} (hP : P.length = m) (hu : m + 2 ≤ us.length) (a b : Value) :
    ((P ++ us.drop m).set m a).set (m + 1) b = P ++ [a, b] ++ us.drop (m + 2) := by
  rw [List.drop_eq_getElem_cons (show m < us.length by omega), List.drop_eq_getElem_cons (show m + 1 < us.length by omega)]
  subst hP
  rw [List.set_append_right _ _ (by omega), List.set_append_right _ _ (by omega), Nat.sub_self, Nat.add_sub_cancel_left]
  simp only [List.set_cons_zero, List.set_cons_succ, List.append_assoc, List.cons_append, List.nil_append]
theorem bts_mk (k0 : Int) (j : Nat) : bts (mkB k0 (j + 1)) = bts (mkB k0 j) ++ btC (mkBt (k0 + 4 * (j : Int))) := by rw [mkB, bts_snoc]
theorem ths_mk (k0 : Int) (j : Nat) : ths (mkP k0 (j + 1)) = ths (mkP k0 j) ++ thc (mkT (k0 + 2 * (j : Int))) := by rw [mkP, ths_snoc]
set_option maxHeartbeats 2000000 in
theorem markSyncBeatS_any (v : Value) (n base k0 : Nat) (us : List Value) (w : World) (hn : n ≤ 1099511627776) (hk0 : k0 ≤ 1099511627776) (h : w.ownsRow base 100 4 v n us) :
    Calls Tryz.prog 38 #[v, .int .i64 k0] w fun e w' => e = .returned (.int .i64 ((k0 + 4 * n : Nat) : Int)) ∧ w'.ownsRow base 100 4 v n (bts (mkB k0 n)) ∧ w.grownBy w' v.ownBlock := by
  obtain ⟨A, c, rfl⟩ := own_form h
  have hlen := h.1
  have hst : Hid (w.ownsRow base 100 4 (.slice A n c) n (bts (mkB k0 0) ++ us.drop (0 * 4))) := h
  have HLEN := hid hlen
  clear h hlen
  go_enter Tryz.func38, Tryz.ntmps38
  go_wp2
  go_loopw [1, 5] (fun m i wr => Hid (∃ (k : Nat) (K : Int), k ≤ n ∧ i = .int .i64 k ∧ m = .int .i64 K ∧ Hid (K = (k0 : Int) + 4 * (k : Int)) ∧ wr.ownsRow base 100 4 (.slice A n c) n (bts (mkB k0 k) ++ us.drop (k * 4)) ∧ w.grownBy wr (Value.slice A n c).ownBlock)) (fun _ i _ => n - (intOf i).toNat)
  case atStart => exact hid ⟨0, _, Nat.zero_le _, rfl, rfl, by show _ = _; simp, hst.out, World.grownBy.refl _ _⟩
  case round =>
    clear hst
    obtain ⟨k, K, hk, rfl, rfl, hK, ho, hg⟩ := hrel.out
    clear hrel
    by_cases hlt : k < n
    · obtain ⟨g, cap, hA, hgb⟩ : ∃ g cap, Value.slice A n c = .slice (some ⟨g, 0, none⟩) n cap ∧ base ≤ g := by
        rcases ho.2 with ⟨_, h0⟩ | ⟨g, cap, cur, hv, hge, hh, r⟩
        · omega
        · exact ⟨g, cap, hv, hge⟩
      injection hA with hA _ hc
      subst hA hc
      have hPl : (bts (mkB k0 k)).length = k * 4 := by rw [bts_len, mkB_len]
      have hul : k * 4 + 4 ≤ us.length := by have := HLEN.out; omega
      have hcur : (bts (mkB k0 k) ++ us.drop (k * 4)).length = us.length := by rw [List.length_append, hPl, List.length_drop]; omega
      have hcell : ∀ j, j < 4 → ∃ u, wr.cell? ⟨g, k * 4 + j, none⟩ = some u := by
        intro j hj
        rw [ho.cellAt (k * 4 + j) (by omega)]
        exact ⟨_, List.getElem?_eq_getElem (by omega)⟩
      obtain ⟨u0, e0⟩ := hcell 0 (by omega)
      obtain ⟨u1, e1⟩ := hcell 1 (by omega)
      obtain ⟨u2, e2⟩ := hcell 2 (by omega)
      obtain ⟨u3, e3⟩ := hcell 3 (by omega)
      rw [Nat.add_zero] at e0
      have f0 := ho.frozenAt (k * 4)
      have f1 := ho.frozenAt (k * 4 + 1)
      have f2 := ho.frozenAt (k * 4 + 2)
      have f3 := ho.frozenAt (k * 4 + 3)
      have hKb : 0 ≤ K ∧ K ≤ 6000000000000 := by have := hK.out; omega
      obtain ⟨K1, hK1⟩ : ∃ K1, K + 1 = K1 := ⟨_, rfl⟩
      obtain ⟨K2, hK2⟩ : ∃ K2, K1 + 1 = K2 := ⟨_, rfl⟩
      obtain ⟨K3, hK3⟩ : ∃ K3, K2 + 1 = K3 := ⟨_, rfl⟩
      obtain ⟨K4, hK4⟩ : ∃ K4, K3 + 1 = K4 := ⟨_, rfl⟩
      have hw1 : IntKind.i64.wrap K1 = K1 := IntWalk.i64_in K1 (by omega)
      have hw2 : IntKind.i64.wrap K2 = K2 := IntWalk.i64_in K2 (by omega)
      have hw3 : IntKind.i64.wrap K3 = K3 := IntWalk.i64_in K3 (by omega)
      have hw4 : IntKind.i64.wrap K4 = K4 := IntWalk.i64_in K4 (by omega)
      obtain ⟨r1, hr1⟩ : ∃ r, K1.tmod 3 = r := ⟨_, rfl⟩
      obtain ⟨r3, hr3⟩ : ∃ r, K3.tmod 3 = r := ⟨_, rfl⟩
      obtain ⟨b1, hb1⟩ : ∃ b, (r1 == 0) = b := ⟨_, rfl⟩
      obtain ⟨b3, hb3⟩ : ∃ b, (r3 == 0) = b := ⟨_, rfl⟩
      have hbt : mkBt ((k0 : Int) + 4 * (k : Int)) = ((K, b1), (K2, b3)) := by
        rw [← hK.out, ← hb1, ← hb3, ← hr1, ← hr3, ← hK3, ← hK2, ← hK1]
        show ((K, (K + 1).tmod 3 == 0), (K + 2, (K + 2 + 1).tmod 3 == 0)) = _
        rw [show K + 1 + 1 = K + 2 by omega]
      have hK5 : Hid (K4 = (k0 : Int) + 4 * ((k + 1 : Nat) : Int)) := by show _ = _; have := hK.out; omega
      obtain ⟨o1, g1⟩ := ho.stored (k * 4) (.int .i64 K)
      obtain ⟨o2, g2⟩ := o1.stored (k * 4 + 1) (.bool b1)
      obtain ⟨o3, g3⟩ := o2.stored (k * 4 + 2) (.int .i64 K2)
      obtain ⟨o4, g4⟩ := o3.stored (k * 4 + 3) (.bool b3)
      rw [sets4 hPl hul, show [Value.int .i64 K, .bool b1, .int .i64 K2, .bool b3] = btC (mkBt ((k0 : Int) + 4 * (k : Int))) from by rw [hbt]; rfl, ← bts_mk, show k * 4 + 4 = (k + 1) * 4 by omega] at o4
      have HO := hid o4
      have HG := hid (gr_two (gr_two (gr_two (gr_two hg g1) g2) g3) g4)
      clear o1 o2 o3 o4 g1 g2 g3 g4 hbt hK ho hg hPl hul hcur hcell
      go_wp2
      go_roundw
      case rel => exact hid ⟨k + 1, K4, by omega, by go_num, rfl, hK5, HO.out, HG.out⟩
      case measure => simp [intOf]; omega
    · have HR : Hid (K = ((k0 + 4 * n : Nat) : Int)) := by show _ = _; have := hK.out; omega
      have : k = n := by omega
      subst this
      rw [List.drop_eq_nil_of_le (by have := HLEN.out; omega), List.append_nil] at ho
      clear hK
      go_wp2
      go_ret
      exact ⟨ret_int HR.out, ho, hg⟩
set_option maxHeartbeats 2000000 in
theorem heldSyncBeatS_any (A : Option Addr) (n c k0 : Nat) (w : World) (hn : n ≤ 1099511627776) (hk0 : k0 ≤ 1099511627776) (h : Rd w w.heap.size 4 A n (bts (mkB k0 n))) :
    Calls Tryz.prog 42 #[.slice A n c, .int .i64 k0] w fun e w' => e = .returned (.int .i64 ((k0 + 4 * n : Nat) : Int)) ∧ Below w.heap.size w w' := by
  have HR := hid h
  clear h
  go_enter Tryz.func42, Tryz.ntmps42
  go_wp2
  go_loopw [1, 5] (fun m i wr => Hid (∃ (k : Nat) (K : Int), k ≤ n ∧ i = .int .i64 k ∧ m = .int .i64 K ∧ Hid (K = (k0 : Int) + 4 * (k : Int)) ∧ Below w.heap.size w wr)) (fun _ i _ => n - (intOf i).toNat)
  case atStart => exact hid ⟨0, _, Nat.zero_le _, rfl, rfl, by show _ = _; simp, Below.refl _ _⟩
  case round =>
    obtain ⟨k, K, hk, rfl, rfl, hK, hb0⟩ := hrel.out
    clear hrel
    by_cases hlt : k < n
    · obtain ⟨b, off, x, rfl, hb, hx, _, c0, c1, c2, c3⟩ := (HR.out.below hb0 (Nat.le_refl _)).bt_at hlt
      have hxx := mkB_at _ _ _ _ hx
      have hKb : 0 ≤ K ∧ K ≤ 6000000000000 := by have := hK.out; omega
      obtain ⟨K1, hK1⟩ : ∃ K1, K + 1 = K1 := ⟨_, rfl⟩
      obtain ⟨K2, hK2⟩ : ∃ K2, K1 + 1 = K2 := ⟨_, rfl⟩
      obtain ⟨K3, hK3⟩ : ∃ K3, K2 + 1 = K3 := ⟨_, rfl⟩
      obtain ⟨K4, hK4⟩ : ∃ K4, K3 + 1 = K4 := ⟨_, rfl⟩
      have hw1 : IntKind.i64.wrap K1 = K1 := IntWalk.i64_in K1 (by omega)
      have hw2 : IntKind.i64.wrap K2 = K2 := IntWalk.i64_in K2 (by omega)
      have hw3 : IntKind.i64.wrap K3 = K3 := IntWalk.i64_in K3 (by omega)
      have hw4 : IntKind.i64.wrap K4 = K4 := IntWalk.i64_in K4 (by omega)
      obtain ⟨r1, hr1⟩ : ∃ r, K1.tmod 3 = r := ⟨_, rfl⟩
      obtain ⟨r3, hr3⟩ : ∃ r, K3.tmod 3 = r := ⟨_, rfl⟩
      obtain ⟨b1, hb1⟩ : ∃ b, (r1 == 0) = b := ⟨_, rfl⟩
      obtain ⟨b3, hb3⟩ : ∃ b, (r3 == 0) = b := ⟨_, rfl⟩
      have hbt : x = ((K, b1), (K2, b3)) := by
        rw [hxx, ← hK.out, ← hb1, ← hb3, ← hr1, ← hr3, ← hK3, ← hK2, ← hK1]
        show ((K, (K + 1).tmod 3 == 0), (K + 2, (K + 2 + 1).tmod 3 == 0)) = _
        rw [show K + 1 + 1 = K + 2 by omega]
      have hK5 : Hid (K4 = (k0 : Int) + 4 * ((k + 1 : Nat) : Int)) := by show _ = _; have := hK.out; omega
      subst hbt
      simp only at c0 c1 c2 c3
      have q1 : (b1 != b1) = false := by simp
      have q3 : (b3 != b3) = false := by simp
      clear hK hx hxx hb
      go_wp2
      go_roundw
      case rel => exact hid ⟨k + 1, K4, by omega, by go_num, rfl, hK5, hb0⟩
      case measure => simp [intOf]; omega
    · have HR : Hid (K = ((k0 + 4 * n : Nat) : Int)) := by show _ = _; have := hK.out; omega
      clear hK
      go_wp2
      go_ret
      exact ⟨ret_int HR.out, hb0⟩
set_option maxHeartbeats 2000000 in
theorem markPassThrowS_any (v : Value) (n base k0 : Nat) (us : List Value) (w : World) (hn : n ≤ 1099511627776) (hk0 : k0 ≤ 1099511627776) (h : w.ownsRow base 105 2 v n us) :
    Calls Tryz.prog 88 #[v, .int .i64 k0] w fun e w' => e = .returned (.int .i64 ((k0 + 2 * n : Nat) : Int)) ∧ w'.ownsRow base 105 2 v n (ths (mkP k0 n)) ∧ w.grownBy w' v.ownBlock := by
  obtain ⟨A, c, rfl⟩ := own_form h
  have hlen := h.1
  have hst : Hid (w.ownsRow base 105 2 (.slice A n c) n (ths (mkP k0 0) ++ us.drop (0 * 2))) := h
  have HLEN := hid hlen
  clear h hlen
  go_enter Tryz.func88, Tryz.ntmps88
  go_wp2
  go_loopw [1, 5] (fun m i wr => Hid (∃ (k : Nat) (K : Int), k ≤ n ∧ i = .int .i64 k ∧ m = .int .i64 K ∧ Hid (K = (k0 : Int) + 2 * (k : Int)) ∧ wr.ownsRow base 105 2 (.slice A n c) n (ths (mkP k0 k) ++ us.drop (k * 2)) ∧ w.grownBy wr (Value.slice A n c).ownBlock)) (fun _ i _ => n - (intOf i).toNat)
  case atStart => exact hid ⟨0, _, Nat.zero_le _, rfl, rfl, by show _ = _; simp, hst.out, World.grownBy.refl _ _⟩
  case round =>
    clear hst
    obtain ⟨k, K, hk, rfl, rfl, hK, ho, hg⟩ := hrel.out
    clear hrel
    by_cases hlt : k < n
    · obtain ⟨g, cap, hA, hgb⟩ : ∃ g cap, Value.slice A n c = .slice (some ⟨g, 0, none⟩) n cap ∧ base ≤ g := by
        rcases ho.2 with ⟨_, h0⟩ | ⟨g, cap, cur, hv, hge, hh, r⟩
        · omega
        · exact ⟨g, cap, hv, hge⟩
      injection hA with hA _ hc
      subst hA hc
      have hPl : (ths (mkP k0 k)).length = k * 2 := by rw [ths_len, mkP_len]
      have hul : k * 2 + 2 ≤ us.length := by have := HLEN.out; omega
      have hcur : (ths (mkP k0 k) ++ us.drop (k * 2)).length = us.length := by rw [List.length_append, hPl, List.length_drop]; omega
      have hcell : ∀ j, j < 2 → ∃ u, wr.cell? ⟨g, k * 2 + j, none⟩ = some u := by
        intro j hj
        rw [ho.cellAt (k * 2 + j) (by omega)]
        exact ⟨_, List.getElem?_eq_getElem (by omega)⟩
      obtain ⟨u0, e0⟩ := hcell 0 (by omega)
      obtain ⟨u1, e1⟩ := hcell 1 (by omega)
      rw [Nat.add_zero] at e0
      have f0 := ho.frozenAt (k * 2)
      have f1 := ho.frozenAt (k * 2 + 1)
      have hKb : 0 ≤ K ∧ K ≤ 6000000000000 := by have := hK.out; omega
      obtain ⟨K1, hK1⟩ : ∃ K1, K + 1 = K1 := ⟨_, rfl⟩
      obtain ⟨K2, hK2⟩ : ∃ K2, K1 + 1 = K2 := ⟨_, rfl⟩
      have hw1 : IntKind.i64.wrap K1 = K1 := IntWalk.i64_in K1 (by omega)
      have hw2 : IntKind.i64.wrap K2 = K2 := IntWalk.i64_in K2 (by omega)
      obtain ⟨r1, hr1⟩ : ∃ r, K1.tmod 3 = r := ⟨_, rfl⟩
      obtain ⟨b1, hb1⟩ : ∃ b, (r1 == 0) = b := ⟨_, rfl⟩
      have hbt : mkT ((k0 : Int) + 2 * (k : Int)) = (K, b1) := by
        rw [← hK.out, ← hb1, ← hr1, ← hK1]; rfl
      have hK5 : Hid (K2 = (k0 : Int) + 2 * ((k + 1 : Nat) : Int)) := by show _ = _; have := hK.out; omega
      obtain ⟨o1, g1⟩ := ho.stored (k * 2) (.int .i64 K)
      obtain ⟨o2, g2⟩ := o1.stored (k * 2 + 1) (.bool b1)
      rw [sets2 hPl hul, show [Value.int .i64 K, .bool b1] = thc (mkT ((k0 : Int) + 2 * (k : Int))) from by rw [hbt]; rfl, ← ths_mk, show k * 2 + 2 = (k + 1) * 2 by omega] at o2
      have HO := hid o2
      have HG := hid (gr_two (gr_two hg g1) g2)
      clear o1 o2 g1 g2 hbt hK ho hg hPl hul hcur hcell
      go_wp2
      go_roundw
      case rel => exact hid ⟨k + 1, K2, by omega, by go_num, rfl, hK5, HO.out, HG.out⟩
      case measure => simp [intOf]; omega
    · have HR : Hid (K = ((k0 + 2 * n : Nat) : Int)) := by show _ = _; have := hK.out; omega
      have : k = n := by omega
      subst this
      rw [List.drop_eq_nil_of_le (by have := HLEN.out; omega), List.append_nil] at ho
      clear hK
      go_wp2
      go_ret
      exact ⟨ret_int HR.out, ho, hg⟩
set_option maxHeartbeats 2000000 in
theorem heldPassThrowS_any (A : Option Addr) (n c k0 : Nat) (w : World) (hn : n ≤ 1099511627776) (hk0 : k0 ≤ 1099511627776) (h : Rd w w.heap.size 2 A n (ths (mkP k0 n))) :
    Calls Tryz.prog 90 #[.slice A n c, .int .i64 k0] w fun e w' => e = .returned (.int .i64 ((k0 + 2 * n : Nat) : Int)) ∧ Below w.heap.size w w' := by
  have HR := hid h
  clear h
  go_enter Tryz.func90, Tryz.ntmps90
  go_wp2
  go_loopw [1, 5] (fun m i wr => Hid (∃ (k : Nat) (K : Int), k ≤ n ∧ i = .int .i64 k ∧ m = .int .i64 K ∧ Hid (K = (k0 : Int) + 2 * (k : Int)) ∧ Below w.heap.size w wr)) (fun _ i _ => n - (intOf i).toNat)
  case atStart => exact hid ⟨0, _, Nat.zero_le _, rfl, rfl, by show _ = _; simp, Below.refl _ _⟩
  case round =>
    obtain ⟨k, K, hk, rfl, rfl, hK, hb0⟩ := hrel.out
    clear hrel
    by_cases hlt : k < n
    · obtain ⟨b, off, x, rfl, hb, hx, _, c0, c1⟩ := (HR.out.below hb0 (Nat.le_refl _)).th_at hlt
      have hxx := mkP_at _ _ _ _ hx
      have hKb : 0 ≤ K ∧ K ≤ 6000000000000 := by have := hK.out; omega
      obtain ⟨K1, hK1⟩ : ∃ K1, K + 1 = K1 := ⟨_, rfl⟩
      obtain ⟨K2, hK2⟩ : ∃ K2, K1 + 1 = K2 := ⟨_, rfl⟩
      have hw1 : IntKind.i64.wrap K1 = K1 := IntWalk.i64_in K1 (by omega)
      have hw2 : IntKind.i64.wrap K2 = K2 := IntWalk.i64_in K2 (by omega)
      obtain ⟨r1, hr1⟩ : ∃ r, K1.tmod 3 = r := ⟨_, rfl⟩
      obtain ⟨b1, hb1⟩ : ∃ b, (r1 == 0) = b := ⟨_, rfl⟩
      have hbt : x = (K, b1) := by
        rw [hxx, ← hK.out, ← hb1, ← hr1, ← hK1]; rfl
      have hK5 : Hid (K2 = (k0 : Int) + 2 * ((k + 1 : Nat) : Int)) := by show _ = _; have := hK.out; omega
      subst hbt
      simp only at c0 c1
      have q1 : (b1 != b1) = false := by simp
      clear hK hx hxx hb
      go_wp2
      go_roundw
      case rel => exact hid ⟨k + 1, K2, by omega, by go_num, rfl, hK5, hb0⟩
      case measure => simp [intOf]; omega
    · have HR : Hid (K = ((k0 + 2 * n : Nat) : Int)) := by show _ = _; have := hK.out; omega
      clear hK
      go_wp2
      go_ret
      exact ⟨ret_int HR.out, hb0⟩
end Go.Proofs.YtkglkpohbckpcaaGreat
