/- Several texts in one: Nb, Yg, Ms. -/
import Derived.Test.YtgphkfnobmponaaGreatG02
import Derived.Test.YtgphkfnobmponaaGreatG15
import Derived.Deep.QuietTactic
import Derived.BigQuiet
import Derived.Test.YtgphkfnobmponaaGreatG14
import Derived.Test.YtgphkfnobmponaaGreatDw
import Derived.Deep.RegionHeld3
import Derived.Test.YtgphkfnobmponaaGreatNs
/- Contracts of the specification's functions that check multiplex patterns. -/
namespace Go.Proofs.YtgphkfnobmponaaGreat
open Go.RowKit
set_option linter.unusedVariables false

theorem msSh_badrow {rows : List (List Int)} {i : Nat} {row : List Int} (hi : rows[i]? = some row) (h : mstOk row = false) : msSh rows = false := by
  cases hs : msSh rows with
  | false => rfl
  | true => have := (msSh_iff.1 hs).2 row (List.mem_of_getElem? hi); rw [h] at this; cases this
theorem mst_of {row : List Int} {n : Nat} (hl : row.length = n) (h1 : betweenB (n : Int) 1 4 = true) (h : ∀ j, j < n → stK row j = true) : mstOk row = true := by
  rw [mstOk, stAll_iff.2 (fun j hj => h j (by omega)), Bool.and_true, hl]; exact h1
set_option maxHeartbeats 4000000 in
theorem l04Shape_at (g o : Nat) (A : Option Addr) (n c : Nat) (rows : List (List Int)) (w : World) (hn : n ≤ 1099511627776) (hl : ∀ r ∈ rows, r.length ≤ 1099511627776) (hx : Bo w g o #[.slice A n c]) (hr : RdG w w.heap.size A n rows) :
    Calls Tryz.prog 75 #[.pointer (some ⟨g, o, none⟩)] w fun e w' => e = .returned (.bool (msSh rows)) ∧ Below w.heap.size w w' := by
  have hlen := hr.len
  have hgl := hx.lt
  have HC := hid (fun (w1 : World) (hb : Below w.heap.size w w1) => show w1.cell? ⟨g, o, none⟩ = some (.slice A n c) from (hx.below hb hgl).cell 0)
  have c0 := HC.out w (Below.refl _ _)
  have hB0 := hid (fun w1 => l00In_any (n : Int) 1 12 w1)
  have HR := hid hr
  have HL := hid hlen
  have HLL := hid hl
  cases h1 : betweenB (n : Int) 1 12 with
  | false =>
    have HZ : Hid (msSh rows = false) := by show _ = _; rw [msSh, hlen, h1]; rfl
    have hB := hid (fun w1 => by have := hB0.out w1; rw [h1] at this; exact this)
    clear h1 hr hx hB0 hl hlen
    go_enter Tryz.func75, Tryz.ntmps75
    go_wp2_with (go_at_call 54; refine (hB.out _).mono ?_; rintro e w' ⟨rfl, rfl⟩)
    go_ret
    exact ⟨ret_bool HZ.out.symm, (by repeat' (first | exact Below.refl _ _ | (with_reducible first | assumption | exact Nat.le_refl _ | refine Below.alloc ?_ ?_ _ | refine Below.setCell ?_ ?_ _ | refine Below.drew ?_ | refine below_drewN ?_ _) | refine Below.trans ?_ (Below.mono (by assumption) ?_) | exact Below.size (by assumption) | omega | go_size | (simp at *; omega)))⟩
  | true =>
    have hB := hid (fun w1 => by have := hB0.out w1; rw [h1] at this; exact this)
    have hGood := hid (fun (h : ∀ (i : Nat) (row : List Int), rows[i]? = some row → mstOk row = true) => show msSh rows = true from msSh_iff.2 ⟨by have h2 := (betweenB_iff _ _ _).1 h1; omega, fun r hr => by obtain ⟨i, hi⟩ := List.getElem?_of_mem hr; exact h i r hi⟩)
    clear h1 hr hx hB0 hl hlen
    go_enter Tryz.func75, Tryz.ntmps75
    go_wp2_with (go_at_call 54; refine (hB.out _).mono ?_; rintro e w' ⟨rfl, rfl⟩)
    clear c0
    go_loopw [3] (fun i wr => Hid (∃ k : Nat, i = .int .i64 k ∧ k ≤ n ∧ Hid (∀ j row, j < k → rows[j]? = some row → mstOk row = true) ∧ Below w.heap.size w wr)) (fun i _ => n - (intOf i).toNat)
    case atStart => exact hid ⟨0, rfl, by omega, hid (fun j row h => absurd h (by omega)), (by repeat' (first | exact Below.refl _ _ | (with_reducible first | assumption | exact Nat.le_refl _ | refine Below.alloc ?_ ?_ _ | refine Below.setCell ?_ ?_ _ | refine Below.drew ?_ | refine below_drewN ?_ _) | refine Below.trans ?_ (Below.mono (by assumption) ?_) | exact Below.size (by assumption) | omega | go_size | (simp at *; omega)))⟩
    case round =>
      obtain ⟨k, rfl, hk, he, hb0⟩ := hrel.out
      clear hrel hB
      have c0 := HC.out wr hb0
      by_cases hlt : k < n
      · obtain ⟨b, off, row', Ai, ci, rfl, hb, hx, hd, hc, hrow⟩ := HR.out.at_ hlt
        have hcr := (hb0.cell (p := ⟨b, off + k, none⟩) hb).trans hc
        have hll := HLL.out row' (List.mem_of_getElem? hx)
        have HBR := hid (fun (h : mstOk row' = false) => msSh_badrow hx h)
        have HGR := hid (fun (h : mstOk row' = true) (j : Nat) (r : List Int) (hj : j < k + 1) (hr : rows[j]? = some r) => show mstOk r = true from by
          rcases Nat.lt_or_eq_of_le (Nat.le_of_lt_succ hj) with h1 | h1
          · exact he.out j r h1 hr
          · subst h1; rw [hx] at hr; injection hr with hr; subst hr; exact h)
        have hbw : b < wr.heap.size := by have := hb0.size; omega
        have hB1 := hid (fun w1 => l00In_any (row'.length : Int) 1 4 w1)
        have HROW := hid hrow
        clear hx hd hrow hc hb he
        cases h1 : betweenB (row'.length : Int) 1 4 with
        | false =>
          have HZ := hid (HBR.out (by rw [mstOk, h1]; rfl))
          have hB := hid (fun w1 => by have := hB1.out w1; rw [h1] at this; exact this)
          clear h1 hB1 HGR HBR
          go_wp2_with (go_at_call 54; refine (hB.out _).mono ?_; rintro e w' ⟨rfl, rfl⟩)
          go_ret
          exact ⟨ret_bool HZ.out.symm, hb0⟩
        | true =>
          have hB := hid (fun w1 => by have := hB1.out w1; rw [h1] at this; exact this)
          have HEND := hid (fun (h : ∀ j, j < row'.length → stK row' j = true) => HGR.out (mst_of rfl h1 h))
          have HBAD := hid (fun (j : Nat) (hj : j < row'.length) (h : stK row' j = false) => HBR.out (mstOk_badk hj h))
          clear h1 hB1 HGR HBR
          go_wp2_with (go_at_call 54; refine (hB.out _).mono ?_; rintro e w' ⟨rfl, rfl⟩)
          go_loopw [5] (fun i wr => Hid (∃ j : Nat, i = .int .i64 j ∧ j ≤ row'.length ∧ Hid (∀ i, i < j → stK row' i = true) ∧ Below w.heap.size w wr)) (fun i _ => row'.length - (intOf i).toNat)
          case atStart => exact hid ⟨0, rfl, by omega, hid (fun j h => absurd h (by omega)), hb0⟩
          case round =>
            clear hb0 c0 hcr hbw
            obtain ⟨j, rfl, hj, he, hb0⟩ := hrel.out
            clear hrel hB
            by_cases hjl : j < row'.length
            · obtain ⟨bb, ofb, x, rfl, hbb, hxj, hdj, hcj⟩ := (HROW.out.below hb0 (Nat.le_refl _)).at_ hjl
              have hbbw : bb < wr.heap.size := by have := hb0.size; omega
              have hE : Hid (stK row' j = stE row'.length (stPrev row' j) x) := stK_at hxj
              have hB2 := hid (fun w1 => l00In_any x 0 15 w1)
              cases hbt : betweenB x 0 15 with
              | false =>
                have HZ := hid (HBAD.out j hjl (by rw [hE.out]; exact stE_bet hbt))
                have hB := hid (fun w1 => by have := hB2.out w1; rw [hbt] at this; exact this)
                clear hbt hxj hdj he HBAD hE hB2 HEND
                go_wp2
                go_quiet (first | (go_at_call 54; with_reducible exact quiet_same (hB.out _)))
                go_wp2
                go_ret
                exact ⟨ret_bool HZ.out.symm, (by repeat' (first | exact Below.refl _ _ | (with_reducible first | assumption | exact Nat.le_refl _ | refine Below.alloc ?_ ?_ _ | refine Below.setCell ?_ ?_ _ | refine Below.drew ?_ | refine below_drewN ?_ _) | refine Below.trans ?_ (Below.mono (by assumption) ?_) | exact Below.size (by assumption) | omega | go_size | (simp at *; omega)))⟩
              | true =>
                have hB := hid (fun w1 => by have := hB2.out w1; rw [hbt] at this; exact this)
                have HG := hid (fun (h : stK row' j = true) => stK_next he.out h)
                by_cases h0 : x = 0
                · by_cases h1 : 1 < row'.length
                  · have HZ := hid (HBAD.out j hjl (by rw [hE.out, h0]; exact stE_zero h1))
                    subst h0
                    have h1I : (1 : Int) < (row'.length : Int) := by omega
                    clear hbt hxj hdj he HBAD hE hB2 HEND HG
                    go_wp2
                    go_quiet (first | (go_at_call 54; with_reducible exact quiet_same (hB.out _)))
                    go_wp2
                    go_ret
                    exact ⟨ret_bool HZ.out.symm, (by repeat' (first | exact Below.refl _ _ | (with_reducible first | assumption | exact Nat.le_refl _ | refine Below.alloc ?_ ?_ _ | refine Below.setCell ?_ ?_ _ | refine Below.drew ?_ | refine below_drewN ?_ _) | refine Below.trans ?_ (Below.mono (by assumption) ?_) | exact Below.size (by assumption) | omega | go_size | (simp at *; omega)))⟩
                  · obtain rfl : j = 0 := by omega
                    rw [Nat.add_zero] at hcj
                    have HZ := hid (HG.out (by rw [hE.out]; exact stE_first hbt (.inr h1)))
                    subst h0
                    have h1d : decide ((1 : Int) < (row'.length : Int)) = false := decide_eq_false (by omega)
                    have h1I : (row'.length : Int) ≤ 1 := by omega
                    clear hbt hxj hdj he HBAD hE hB2 HEND HG h1
                    go_wp2
                    go_quiet (first | (go_at_call 54; with_reducible exact quiet_same (hB.out _)))
                    go_wp2
                    go_roundw
                    case rel => exact hid ⟨0 + 1, by go_num, by omega, HZ, (by repeat' (first | exact Below.refl _ _ | (with_reducible first | assumption | exact Nat.le_refl _ | refine Below.alloc ?_ ?_ _ | refine Below.setCell ?_ ?_ _ | refine Below.drew ?_ | refine below_drewN ?_ _) | refine Below.trans ?_ (Below.mono (by assumption) ?_) | exact Below.size (by assumption) | omega | go_size | (simp at *; omega)))⟩
                    case measure => simp [intOf]; omega
                · have hq : (x == 0) = false := by simpa using h0
                  rcases Nat.eq_zero_or_pos j with hk0 | hk0
                  · subst hk0
                    rw [Nat.add_zero] at hcj
                    have HZ := hid (HG.out (by rw [hE.out]; exact stE_first hbt (.inl h0)))
                    clear hbt hxj hdj he HBAD hE hB2 HEND HG h0
                    go_wp2
                    go_quiet (first | (go_at_call 54; with_reducible exact quiet_same (hB.out _)))
                    go_wp2
                    go_roundw
                    case rel => exact hid ⟨0 + 1, by go_num, by omega, HZ, (by repeat' (first | exact Below.refl _ _ | (with_reducible first | assumption | exact Nat.le_refl _ | refine Below.alloc ?_ ?_ _ | refine Below.setCell ?_ ?_ _ | refine Below.drew ?_ | refine below_drewN ?_ _) | refine Below.trans ?_ (Below.mono (by assumption) ?_) | exact Below.size (by assumption) | omega | go_size | (simp at *; omega)))⟩
                    case measure => simp [intOf]; omega
                  · obtain ⟨m, rfl⟩ : ∃ m, j = m + 1 := ⟨j - 1, by omega⟩
                    obtain ⟨b2, o2, y, hA2, hb2, hy, hd2, hc2⟩ := (HROW.out.below hb0 (Nat.le_refl _)).at_ (show m < row'.length by omega)
                    injection hA2 with hA2
                    injection hA2 with e1 e2
                    subst e1 e2
                    have hE2 : Hid (stK row' (m + 1) = decide (x ≤ y)) := by
                      show _ = _
                      rw [hE.out, show stPrev row' (m + 1) = some y from hy]; exact stE_next hbt h0
                    have hm : IntKind.i64.wrap (((m + 1 : Nat) : Int) - 1) = (m : Int) := by rw [show ((m + 1 : Nat) : Int) - 1 = (m : Int) by omega]; exact IntWalk.i64_in (m : Int) (by omega)
                    have hpos : (0 : Int) < ((m + 1 : Nat) : Int) := by omega
                    have hmn : (m : Int) < (row'.length : Int) := by omega
                    by_cases hle : x ≤ y
                    · have HZ := hid (HG.out (by rw [hE2.out]; simpa using hle))
                      have hng : ¬ y < x := by omega
                      clear hbt hxj hdj he HBAD hE hB2 HEND HG h0 hd2 hy hE2 hle
                      go_wp2
                      go_quiet (first | (go_at_call 54; with_reducible exact quiet_same (hB.out _)))
                      go_wp2
                      go_roundw
                      case rel => exact hid ⟨m + 1 + 1, by go_num, by omega, HZ, (by repeat' (first | exact Below.refl _ _ | (with_reducible first | assumption | exact Nat.le_refl _ | refine Below.alloc ?_ ?_ _ | refine Below.setCell ?_ ?_ _ | refine Below.drew ?_ | refine below_drewN ?_ _) | refine Below.trans ?_ (Below.mono (by assumption) ?_) | exact Below.size (by assumption) | omega | go_size | (simp at *; omega)))⟩
                      case measure => simp [intOf]; omega
                    · have HZ := hid (HBAD.out (m + 1) hjl (by rw [hE2.out]; simpa using hle))
                      have hng : y < x := by omega
                      clear hbt hxj hdj he HBAD hE hB2 HEND HG h0 hd2 hy hE2 hle
                      go_wp2
                      go_quiet (first | (go_at_call 54; with_reducible exact quiet_same (hB.out _)))
                      go_wp2
                      go_ret
                      exact ⟨ret_bool HZ.out.symm, (by repeat' (first | exact Below.refl _ _ | (with_reducible first | assumption | exact Nat.le_refl _ | refine Below.alloc ?_ ?_ _ | refine Below.setCell ?_ ?_ _ | refine Below.drew ?_ | refine below_drewN ?_ _) | refine Below.trans ?_ (Below.mono (by assumption) ?_) | exact Below.size (by assumption) | omega | go_size | (simp at *; omega)))⟩
            · have HZ := hid (HEND.out (fun i hi => he.out i (by omega)))
              clear he
              go_wp2
              go_roundw
              case rel => exact hid ⟨k + 1, by go_num, by omega, hid (fun j row hj hr => HZ.out j row hj hr), hb0⟩
              case measure => simp [intOf]; omega
      · have HZ := hid (hGood.out (fun i row hi => he.out i row (by have := (List.getElem?_eq_some_iff.1 hi).1; have := HL.out; omega) hi))
        clear he
        go_wp2
        go_ret
        exact ⟨ret_bool HZ.out.symm, hb0⟩
theorem l04Shape_any (g : Nat) (A : Option Addr) (n c : Nat) (rows : List (List Int)) (w : World) (hn : n ≤ 1099511627776) (hl : ∀ r ∈ rows, r.length ≤ 1099511627776) (hx : Bx w g 27 #[.slice A n c]) (hr : RdG w w.heap.size A n rows) :
    Calls Tryz.prog 75 #[.pointer (some ⟨g, 0, none⟩)] w fun e w' => e = .returned (.bool (msSh rows)) ∧ Below w.heap.size w w' := l04Shape_at g 0 A n c rows w hn hl hx.bo hr
end Go.Proofs.YtgphkfnobmponaaGreat

/- Contracts of the functions that draw synchronous patterns. -/
namespace Go.Proofs.YtgphkfnobmponaaGreat
open Go.RowKit
set_option linter.unusedVariables false

theorem bts_set0 : ∀ (q : List Beat) (j : Nat) (v : Int), (bts q).set (j * 4) (.int .i64 v) = bts (q.set j ((v, (q.getD j b0).1.2), (q.getD j b0).2)) := by
  intro q
  induction q with
  | nil => intro j v; rfl
  | cons b q ih =>
    intro j v
    cases j with
    | zero => rfl
    | succ j =>
      have e : bts (b :: q) = btC b ++ bts q := rfl
      have hl : (btC b).length = 4 := rfl
      rw [e, List.set_append_right _ _ (by omega), hl, show (j + 1) * 4 - 4 = j * 4 by omega, ih]; rfl
theorem bts_set1 : ∀ (q : List Beat) (j : Nat) (v : Bool), (bts q).set (j * 4 + 1) (.bool v) = bts (q.set j (((q.getD j b0).1.1, v), (q.getD j b0).2)) := by
  intro q
  induction q with
  | nil => intro j v; rfl
  | cons b q ih =>
    intro j v
    cases j with
    | zero => rfl
    | succ j =>
      have e : bts (b :: q) = btC b ++ bts q := rfl
      have hl : (btC b).length = 4 := rfl
      rw [e, List.set_append_right _ _ (by omega), hl, show (j + 1) * 4 + 1 - 4 = j * 4 + 1 by omega, ih]; rfl
theorem bts_set2 : ∀ (q : List Beat) (j : Nat) (v : Int), (bts q).set (j * 4 + 2) (.int .i64 v) = bts (q.set j ((q.getD j b0).1, (v, (q.getD j b0).2.2))) := by
  intro q
  induction q with
  | nil => intro j v; rfl
  | cons b q ih =>
    intro j v
    cases j with
    | zero => rfl
    | succ j =>
      have e : bts (b :: q) = btC b ++ bts q := rfl
      have hl : (btC b).length = 4 := rfl
      rw [e, List.set_append_right _ _ (by omega), hl, show (j + 1) * 4 + 2 - 4 = j * 4 + 2 by omega, ih]; rfl
theorem bts_set3 : ∀ (q : List Beat) (j : Nat) (v : Bool), (bts q).set (j * 4 + 3) (.bool v) = bts (q.set j ((q.getD j b0).1, ((q.getD j b0).2.1, v))) := by
  intro q
  induction q with
  | nil => intro j v; rfl
  | cons b q ih =>
    intro j v
    cases j with
    | zero => rfl
    | succ j =>
      have e : bts (b :: q) = btC b ++ bts q := rfl
      have hl : (btC b).length = 4 := rfl
      rw [e, List.set_append_right _ _ (by omega), hl, show (j + 1) * 4 + 3 - 4 = j * 4 + 3 by omega, ih]; rfl
/-- Beats of the call's own stay while a source is asked. -/
theorem own_ask' {w w' : World} {b n g m c K : Nat} {A : Option Addr} {zs : List Int} {v : Value} {xs : List Value} (h : w.ownsRow b 95 4 v n xs) (hs : Src w g A m c zs K) (hg : w.grownBy w' (some g)) : w'.ownsRow b 95 4 v n xs := by
  obtain ⟨_, _, hb, _⟩ := hs
  exact h.kept hg (.inr (own_bne h hb (by decide)))
theorem made_bts {n : Nat} (h : n ≤ 3) : (madeCells (Value.agg #[.int .i64 0, .bool false, .int .i64 0, .bool false]).cells (n * 4)).toList = bts (List.replicate n b0) := by
  have : n = 0 ∨ n = 1 ∨ n = 2 ∨ n = 3 := by omega
  rcases this with rfl | rfl | rfl | rfl <;> simp [madeCells, Value.cells, bts, btC, b0, List.replicate, Array.range]
/-- 'make([]SyncBeat, n)'. -/
theorem make_bt {w : World} {ops : Array Oper} {rest : List Oper} {o : Oper} {a : Act} {Q : Exit → Act → World → Prop}
    (base n : Nat) (hgd : o.guard = none) (l c : Operand) (hop : o.op = Op.makeSlice 28 l c) (kl kc : IntKind) (hl : a.eval l = .int kl (n : Int)) (hc : a.eval c = .int kc (n : Int))
    (hn : n ≤ 3) (hbase : base ≤ w.heap.size)
    (hK : ∀ w', w'.ownsRow base 95 4 (.slice (some ⟨w.heap.size, 0, none⟩) n n) (List.replicate n b0).length (bts (List.replicate n b0)) → Below w.heap.size w w' → wpList Tryz.prog ops Q rest (a.put o.dst (.slice (some ⟨w.heap.size, 0, none⟩) n n)) w') :
    wpList Tryz.prog ops Q (o :: rest) a w := by
  obtain ⟨i0, hi, hz0, hz1, hz2⟩ := info_parts inf_bt
  refine wpList_make_full _ hgd l c 28 hop base 95 i0 _ 4 Tryz.underlying28 hi hz0 hz1 kl kc _ _ n hl hc rfl rfl (by rw [hz2]; omega) (by unfold maxLen; omega) hbase ?_
  intro w' h1 h2
  rw [made_bts hn] at h1
  refine hK w' (by rw [List.length_replicate]; exact h1) ⟨h2.os, h2.tape, h2.output, h2.size, fun k hk => h2.block k hk (by simp)⟩
end Go.Proofs.YtgphkfnobmponaaGreat

/- Plain facts: throws in the order of a beat. -/
namespace Go.Proofs.YtgphkfnobmponaaGreat
open Go.RowKit
set_option linter.unusedVariables false

def geB (a b : Int) : Bool := decide (b ≤ a)
def nz (l : List Int) : List Int := l.filter fun t => decide (t ≠ 0)
/-- The throws that are not 0, in falling order. -/
def rSrt (l : List Int) : List Int := (nz l).mergeSort geB
def rSortZ (l : List Int) : List Int := if rSrt l = [] then [0] else rSrt l
def Fall (l : List Int) : Prop := l.Pairwise fun a b => b ≤ a
theorem rSrt_fall (l : List Int) : Fall (rSrt l) := by
  have h := List.pairwise_mergeSort (le := geB) (fun a b c h1 h2 => by simp [geB] at *; omega) (fun a b => by simp [geB]; omega) (nz l)
  exact h.imp fun h => by simpa [geB] using h
theorem rSrt_perm (l : List Int) : (rSrt l).Perm (nz l) := List.mergeSort_perm _ _
theorem rSrt_uniq {l out : List Int} (h : Fall out) (hp : out.Perm (nz l)) : out = rSrt l :=
  List.Perm.eq_of_pairwise (le := fun a b => b ≤ a) (fun a b _ _ h1 h2 => by omega) h (rSrt_fall l) (hp.trans (rSrt_perm l).symm)
theorem nz_len (l : List Int) : (nz l).length ≤ l.length := List.length_filter_le _ _
theorem rSrt_len (l : List Int) : (rSrt l).length ≤ l.length := by rw [(rSrt_perm l).length_eq]; exact nz_len l
theorem nz_snoc (l : List Int) (x : Int) : nz (l ++ [x]) = nz l ++ (if x = 0 then [] else [x]) := by
  unfold nz
  rw [List.filter_append]
  congr 1
  by_cases h : x = 0 <;> simp [h]
theorem nz_step {l : List Int} {k : Nat} {x : Int} (h : l[k]? = some x) : nz (l.take (k + 1)) = nz (l.take k) ++ (if x = 0 then [] else [x]) := by
  rw [List.take_add_one, h]; exact nz_snoc _ _
theorem fall_ins {out : List Int} {x : Int} {j : Nat} (h : Fall out) (hj : j ≤ out.length) (h1 : ∀ m, j ≤ m → m < out.length → out.getD m 0 < x) (h2 : ∀ m, j = m + 1 → x ≤ out.getD m 0) : Fall (out.take j ++ x :: out.drop j) := by
  have hg : ∀ (m : Nat) (hm : m < out.length), out.getD m 0 = out[m] := fun m hm => by rw [List.getD_eq_getElem?_getD, List.getElem?_eq_getElem hm]; rfl
  have hp := List.pairwise_iff_getElem.1 h
  unfold Fall
  rw [List.pairwise_append]
  refine ⟨h.sublist (List.take_sublist _ _), ?_, ?_⟩
  · rw [List.pairwise_cons]
    refine ⟨fun y hy => ?_, h.sublist (List.drop_sublist _ _)⟩
    obtain ⟨i, hi, rfl⟩ := List.mem_iff_getElem.1 hy
    rw [List.length_drop] at hi
    rw [List.getElem_drop]
    have := h1 (j + i) (by omega) (by omega)
    rw [hg _ (by omega)] at this
    omega
  · intro a ha b hb
    obtain ⟨i, hi, rfl⟩ := List.mem_iff_getElem.1 ha
    rw [List.length_take] at hi
    rw [List.getElem_take]
    have hjm : x ≤ out[i]'(by omega) := by
      have h3 := h2 (j - 1) (by omega)
      rw [hg _ (by omega)] at h3
      rcases Nat.lt_or_eq_of_le (show i ≤ j - 1 by omega) with h4 | h4
      · have := hp i (j - 1) (by omega) (by omega) h4; omega
      · subst h4; exact h3
    rcases List.mem_cons.1 hb with rfl | hb
    · exact hjm
    · obtain ⟨i2, hi2, rfl⟩ := List.mem_iff_getElem.1 hb
      rw [List.length_drop] at hi2
      rw [List.getElem_drop]
      have := h1 (j + i2) (by omega) (by omega)
      rw [hg _ (by omega)] at this
      omega
theorem perm_ins {out : List Int} {x : Int} {j : Nat} : (out.take j ++ x :: out.drop j).Perm (out ++ [x]) := by
  have h1 : (out.take j ++ x :: out.drop j).Perm (x :: (out.take j ++ out.drop j)) := List.perm_middle
  rw [List.take_append_drop] at h1
  exact h1.trans (List.perm_append_singleton x out).symm
theorem rSortZ_len {l : List Int} (h : 1 ≤ l.length) : 1 ≤ (rSortZ l).length ∧ (rSortZ l).length ≤ l.length := by
  unfold rSortZ
  have := rSrt_len l
  split
  · simp; omega
  · rename_i hne
    have := List.length_pos_iff.2 hne
    omega
end Go.Proofs.YtgphkfnobmponaaGreat
