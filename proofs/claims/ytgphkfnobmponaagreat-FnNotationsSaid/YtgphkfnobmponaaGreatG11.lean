/- Several texts in one: Ye, Yl, Qj. -/
import Derived.Test.YtgphkfnobmponaaGreatG09
import Derived.Test.YtgphkfnobmponaaGreatG06
import Derived.Test.YtgphkfnobmponaaGreatProg
import Derived.Test.YtgphkfnobmponaaGreatG01
import Derived.Deep.QuietTactic
import Derived.BigQuiet
import Derived.Test.YtgphkfnobmponaaGreatG04
import Derived.Test.YtgphkfnobmponaaGreatG05
import Derived.Test.YtgphkfnobmponaaGreatDw
/- Contracts of the functions of synchronous patterns: equality, props, crossings. -/
namespace Go.Proofs.YtgphkfnobmponaaGreat
open Go.RowKit
set_option linter.unusedVariables false

theorem beat_ne {x1 x3 y1 y3 : Int} {x2 x4 y2 y4 : Bool} (h : ¬ (((x1, x2), (x3, x4)) : Beat) = ((y1, y2), (y3, y4))) : x1 ≠ y1 ∨ (x1 = y1 ∧ x2 ≠ y2) ∨ (x1 = y1 ∧ x2 = y2 ∧ x3 ≠ y3) ∨ (x1 = y1 ∧ x2 = y2 ∧ x3 = y3 ∧ x4 ≠ y4) := by
  by_cases h1 : x1 = y1
  · by_cases h2 : x2 = y2
    · by_cases h3 : x3 = y3
      · exact .inr (.inr (.inr ⟨h1, h2, h3, fun h4 => h (by subst h1 h2 h3 h4; rfl)⟩))
      · exact .inr (.inr (.inl ⟨h1, h2, h3⟩))
    · exact .inr (.inl ⟨h1, h2⟩)
  · exact .inl h1
theorem specSameSync_any (A A' : Option Addr) (n n' c c' : Nat) (xs ys : List Beat) (w : World) (hn : n ≤ 1099511627776) (hn' : n' ≤ 1099511627776) (h : Rd w w.heap.size 4 A n (bts xs)) (h' : Rd w w.heap.size 4 A' n' (bts ys)) :
    Calls Tryz.prog 52 #[.slice A n c, .slice A' n' c'] w fun e w' => e = .returned (.bool (decide (xs = ys))) ∧ Below w.heap.size w w' := by
  have hl := h.bt_len
  have hl' := h'.bt_len
  by_cases hnn : n = n'
  · subst hnn
    have hst : Hid (decide (xs.drop 0 = ys.drop 0) = decide (xs = ys)) := rfl
    go_enter Tryz.func52, Tryz.ntmps52
    go_wp2
    go_loopw [5] (fun i wr => ∃ k : Nat, k ≤ n ∧ i = .int .i64 k ∧ Hid (decide (xs.drop k = ys.drop k) = decide (xs = ys)) ∧ Below w.heap.size w wr) (fun i _ => n - (intOf i).toNat)
    case atStart => exact ⟨0, Nat.zero_le _, rfl, hst, Below.refl _ _⟩
    case round =>
    obtain ⟨k, hk, rfl, he, hb0⟩ := hrel
    by_cases hlt : k < n
    · obtain ⟨b, off, x, rfl, hb, hx, hd, c0, c1, c2, c3⟩ := (h.below hb0 (Nat.le_refl _)).bt_at hlt
      obtain ⟨b', off', x', rfl, hb', hx', hd', d0, d1, d2, d3⟩ := (h'.below hb0 (Nat.le_refl _)).bt_at hlt
      obtain ⟨⟨x1, x2⟩, ⟨x3, x4⟩⟩ := x
      obtain ⟨⟨y1, y2⟩, ⟨y3, y4⟩⟩ := x'
      by_cases hxx : (((x1, x2), (x3, x4)) : Beat) = ((y1, y2), (y3, y4))
      · have HZ : Hid (decide (xs.drop (k + 1) = ys.drop (k + 1)) = decide (xs = ys)) := by
          show _ = _
          rw [← he.out, hd, hd', hxx]; simp
        injection hxx with h1 h2
        injection h1 with h1 h3
        injection h2 with h2 h4
        subst h1 h2 h3 h4
        clear hx hx' hd hd' he hst h h' hb hb' hl hl'
        go_wp2
        go_quiet (fail)
        go_wp2
        go_roundw
        case rel => exact ⟨k + 1, by omega, by go_num, HZ, (by repeat' (first | exact Below.refl _ _ | (with_reducible first | assumption | exact Nat.le_refl _ | refine Below.alloc ?_ ?_ _ | refine Below.setCell ?_ ?_ _ | refine Below.drew ?_ | refine below_drewN ?_ _) | refine Below.trans ?_ (Below.mono (by assumption) ?_) | exact Below.size (by assumption) | omega | go_size | (simp at *; omega)))⟩
        case measure => simp [intOf]; omega
      · have HZ : Hid (decide (xs = ys) = false) := by
          show _ = _
          rw [← he.out, hd, hd']
          refine decide_eq_false fun e => hxx ?_
          injection e
        rcases beat_ne hxx with h1 | ⟨h1, h2⟩ | ⟨h1, h2, h3⟩ | ⟨h1, h2, h3, h4⟩
        · have hq : (x1 == y1) = false := by simpa using h1
          clear hx hx' hd hd' he hst h h' hb hb' hl hl' hxx h1
          go_wp2
          go_quiet (fail)
          go_wp2
          go_ret
          exact ⟨ret_bool HZ.out.symm, (by repeat' (first | exact Below.refl _ _ | (with_reducible first | assumption | exact Nat.le_refl _ | refine Below.alloc ?_ ?_ _ | refine Below.setCell ?_ ?_ _ | refine Below.drew ?_ | refine below_drewN ?_ _) | refine Below.trans ?_ (Below.mono (by assumption) ?_) | exact Below.size (by assumption) | omega | go_size | (simp at *; omega)))⟩
        · have hq : (x2 == y2) = false := by simpa using h2
          subst h1
          clear hx hx' hd hd' he hst h h' hb hb' hl hl' hxx h2
          go_wp2
          go_quiet (fail)
          go_wp2
          go_ret
          exact ⟨ret_bool HZ.out.symm, (by repeat' (first | exact Below.refl _ _ | (with_reducible first | assumption | exact Nat.le_refl _ | refine Below.alloc ?_ ?_ _ | refine Below.setCell ?_ ?_ _ | refine Below.drew ?_ | refine below_drewN ?_ _) | refine Below.trans ?_ (Below.mono (by assumption) ?_) | exact Below.size (by assumption) | omega | go_size | (simp at *; omega)))⟩
        · have hq : (x3 == y3) = false := by simpa using h3
          subst h1 h2
          clear hx hx' hd hd' he hst h h' hb hb' hl hl' hxx h3
          go_wp2
          go_quiet (fail)
          go_wp2
          go_ret
          exact ⟨ret_bool HZ.out.symm, (by repeat' (first | exact Below.refl _ _ | (with_reducible first | assumption | exact Nat.le_refl _ | refine Below.alloc ?_ ?_ _ | refine Below.setCell ?_ ?_ _ | refine Below.drew ?_ | refine below_drewN ?_ _) | refine Below.trans ?_ (Below.mono (by assumption) ?_) | exact Below.size (by assumption) | omega | go_size | (simp at *; omega)))⟩
        · have hq : (x4 == y4) = false := by simpa using h4
          subst h1 h2 h3
          clear hx hx' hd hd' he hst h h' hb hb' hl hl' hxx h4
          go_wp2
          go_quiet (fail)
          go_wp2
          go_ret
          exact ⟨ret_bool HZ.out.symm, (by repeat' (first | exact Below.refl _ _ | (with_reducible first | assumption | exact Nat.le_refl _ | refine Below.alloc ?_ ?_ _ | refine Below.setCell ?_ ?_ _ | refine Below.drew ?_ | refine below_drewN ?_ _) | refine Below.trans ?_ (Below.mono (by assumption) ?_) | exact Below.size (by assumption) | omega | go_size | (simp at *; omega)))⟩
    · have HZ : Hid (decide (xs = ys) = true) := by
        show _ = _
        rw [← he.out, List.drop_eq_nil_of_le (by omega), List.drop_eq_nil_of_le (by omega)]; rfl
      clear he hst hl hl' h h'
      go_wp2
      go_ret
      exact ⟨ret_bool HZ.out.symm, (by repeat' (first | exact Below.refl _ _ | (with_reducible first | assumption | exact Nat.le_refl _ | refine Below.alloc ?_ ?_ _ | refine Below.setCell ?_ ?_ _ | refine Below.drew ?_ | refine below_drewN ?_ _) | refine Below.trans ?_ (Below.mono (by assumption) ?_) | exact Below.size (by assumption) | omega | go_size | (simp at *; omega)))⟩
  · have HZ : Hid (decide (xs = ys) = false) := by
      show _ = _
      refine decide_eq_false fun e => hnn ?_
      rw [← hl, ← hl', e]
    clear hl hl' h h'
    go_enter Tryz.func52, Tryz.ntmps52
    go_wp2
    go_ret
    exact ⟨ret_bool HZ.out.symm, (by repeat' (first | exact Below.refl _ _ | (with_reducible first | assumption | exact Nat.le_refl _ | refine Below.alloc ?_ ?_ _ | refine Below.setCell ?_ ?_ _ | refine Below.drew ?_ | refine below_drewN ?_ _) | refine Below.trans ?_ (Below.mono (by assumption) ?_) | exact Below.size (by assumption) | omega | go_size | (simp at *; omega)))⟩
end Go.Proofs.YtgphkfnobmponaaGreat

/- Plain facts: synchronous patterns slide to patterns, and pairs lead back. Nothing of the program is named here. -/
namespace Go.Proofs.YtgphkfnobmponaaGreat
open Go.RowKit
set_option linter.unusedVariables false

/-- The throw of a pattern for the throw with a number. -/
def slV (k : Nat) (t : Thr) : Int := if t.2 then (if k % 2 = 0 then t.1 + 1 else t.1 - 1) else t.1
def slP (p : List Beat) : List Int := (List.range (2 * p.length)).map fun k => slV k (nth p k)
def rSlide (p : List Beat) : List Int × Int := if syOk p then (slP p, 0) else ([], 1)
theorem slP_len (p : List Beat) : (slP p).length = 2 * p.length := by simp [slP]
theorem slP_at {p : List Beat} {k : Nat} (h : k < 2 * p.length) : (slP p)[k]? = some (slV k (nth p k)) := by
  rw [slP, List.getElem?_map, List.getElem?_range h]; rfl
theorem slP_step {p : List Beat} {k : Nat} (h : k < 2 * p.length) : (slP p).take (k + 1) = (slP p).take k ++ [slV k (nth p k)] := by
  rw [List.take_add_one, slP_at h]; rfl
theorem nth_cons (b : Beat) (p : List Beat) (k : Nat) : nth (b :: p) (k + 2) = nth p k := by
  unfold nth
  have e1 : (k + 2) % 2 = k % 2 := by omega
  have e2 : (k + 2) / 2 = k / 2 + 1 := by omega
  rw [e1, e2]; rfl
/-- The throw of a hand for a throw of a pattern. -/
def bkT (k : Nat) (v : Int) : Thr := if v % 2 = 1 then (v + (2 * ((k % 2 : Nat) : Int) - 1), true) else (v, false)
/-- The list for pairs: of even length. -/
def allP (q : List Int) : List Int := if q.length % 2 = 1 then q ++ q else q
/-- The throws, two by two. -/
def prP : List Int → List Beat
  | x :: y :: r => (bkT 0 x, bkT 1 y) :: prP r
  | _ => []
def rPair (q : List Int) : List Beat × Int := if okP q then (if 12 < (allP q).length then ([], 5) else if (prP (allP q)).all btOk then (prP (allP q), 0) else ([], 10)) else ([], 1)
theorem bkT_mod (k : Nat) (v : Int) : bkT k v = bkT (k % 2) v := by unfold bkT; rw [Nat.mod_mod]
theorem prP_len : ∀ (n : Nat) (a : List Int), a.length = 2 * n → (prP a).length = n := by
  intro n
  induction n with
  | zero => intro a h; obtain rfl : a = [] := List.eq_nil_of_length_eq_zero (by omega); rfl
  | succ n ih =>
    intro a h
    match a, h with
    | x :: y :: r, h => rw [prP, List.length_cons, ih r (by simp at h; omega)]
theorem prP_nth : ∀ (n : Nat) (a : List Int), a.length = 2 * n → ∀ k, k < 2 * n → nth (prP a) k = bkT k (a.getD k 0) := by
  intro n
  induction n with
  | zero => intro a h k hk; omega
  | succ n ih =>
    intro a h k hk
    match a, h with
    | x :: y :: r, h =>
      match k, hk with
      | 0, _ => rfl
      | 1, _ => rfl
      | k + 2, hk =>
        rw [prP, nth_cons, ih r (by simp at h; omega) k (by omega), bkT_mod (k + 2), bkT_mod k, show (k + 2) % 2 = k % 2 by omega]; rfl
theorem allP_len (q : List Int) : ∃ n, (allP q).length = 2 * n := by
  unfold allP
  by_cases h : q.length % 2 = 1
  · rw [if_pos h, List.length_append]; exact ⟨q.length, by omega⟩
  · rw [if_neg h]; exact ⟨q.length / 2, by omega⟩
end Go.Proofs.YtgphkfnobmponaaGreat

/- Contract of l04Site, which draws a pattern with one throw at each beat. -/
namespace Go.Proofs.YtgphkfnobmponaaGreat
open Go.RowKit
set_option linter.unusedVariables false

/-- A list of throws whose landings are all different. -/
def St (N : Nat) (L : List Int) : Prop := L.length = N ∧ (∀ x ∈ L, 0 ≤ x ∧ x ≤ 15) ∧ ∀ a b : Nat, a < b → b < N → Ld L a ≠ Ld L b
theorem St.len {N : Nat} {L : List Int} (h : St N L) : L.length = N := h.1
theorem St.bd {N : Nat} {L : List Int} (h : St N L) (i : Nat) (hi : i < N) : 0 ≤ L.getD i 0 ∧ L.getD i 0 ≤ 15 := by
  refine h.2.1 _ ?_
  rw [List.getD_eq_getElem?_getD, List.getElem?_eq_getElem (by rw [h.1]; exact hi)]
  exact List.getElem_mem _
theorem St.ok {N : Nat} {L : List Int} (h : St N L) (h1 : 1 ≤ N) (h12 : N ≤ 12) : okP L = true := by
  refine ok_mk ?_ (fun a b hab hb => h.2.2 a b hab (by rw [← h.1]; exact hb))
  rw [thOk, Bool.and_eq_true, List.all_eq_true, betweenB_iff]
  refine ⟨fun x hx => ?_, by rw [h.1]; omega⟩
  have := h.2.1 x hx
  rw [betweenB_iff]; exact this
theorem St.const {N : Nat} {L : List Int} {k : Int} (hl : L.length = N) (k0 : 0 ≤ k) (k1 : k ≤ 15) (h : ∀ j : Nat, j < N → L.getD j 0 = k) : St N L := by
  refine ⟨hl, fun x hx => ?_, fun a b hab hb => ?_⟩
  · obtain ⟨j, hj, rfl⟩ := List.mem_iff_getElem.1 hx
    have := h j (by omega)
    rw [List.getD_eq_getElem?_getD, List.getElem?_eq_getElem hj] at this
    simp at this; omega
  · unfold Ld
    rw [h a (by omega), h b hb, hl]
    intro e
    have h1 := Int.emod_emod_of_dvd
    have : ((a : Int) + k - ((b : Int) + k)) % (N : Int) = 0 := Int.emod_eq_zero_of_dvd (Int.dvd_of_emod_eq_zero (by rw [Int.sub_emod, e, Int.sub_self, Int.zero_emod]))
    have h2 : (N : Int) ∣ ((b : Int) - (a : Int)) := by
      have := Int.dvd_of_emod_eq_zero this
      have h3 := Int.dvd_neg.2 this
      rw [show -((a : Int) + k - ((b : Int) + k)) = (b : Int) - (a : Int) by omega] at h3
      exact h3
    have := Int.le_of_dvd (by omega) h2
    omega
theorem St.swap {N : Nat} {L : List Int} (h : St N L) {a b : Nat} (hab : a < b) (hb : b < N) (hx : L.getD b 0 + (b : Int) - (a : Int) ≤ 15) (hy : 0 ≤ L.getD a 0 + (a : Int) - (b : Int)) : St N (swapP L a b) := by
  have ha : a < L.length := by rw [h.1]; omega
  have hb' : b < L.length := by rw [h.1]; exact hb
  refine ⟨by rw [swapP_len]; exact h.1, fun x hx' => ?_, fun i j hij hj => ?_⟩
  · obtain ⟨j, hj, rfl⟩ := List.mem_iff_getElem.1 hx'
    have e : (swapP L a b)[j] = (swapP L a b).getD j 0 := by rw [List.getD_eq_getElem?_getD, List.getElem?_eq_getElem hj]; rfl
    rw [swapP_len] at hj
    rw [e, swapP_getD ha hb']
    have h1 := h.bd a (by omega)
    have h2 := h.bd b hb
    split
    · omega
    · split
      · omega
      · exact h.bd j (by rw [← h.1]; exact hj)
  · rw [swapP_Ld ha hb', swapP_Ld ha hb']
    have key : ∀ x y : Nat, x ≠ y → x < N → y < N → Ld L x ≠ Ld L y := fun x y hxy hx hy => by
      rcases Nat.lt_or_gt_of_ne hxy with k | k
      · exact h.2.2 x y k hy
      · exact fun e => h.2.2 y x k hx e.symm
    refine key _ _ ?_ ?_ ?_
    · unfold tr
      split <;> split <;> (try split) <;> (try split) <;> omega
    · unfold tr; split <;> (try split) <;> omega
    · unfold tr; split <;> (try split) <;> omega
/-- A list of throws of the call's own. -/
def StRow (B N : Nat) (w : World) (v : Value) : Prop := ∃ L, St N L ∧ w.ownsRow B 2 1 v L.length (ints L)
set_option maxRecDepth 100000 in
set_option maxHeartbeats 2000000 in
theorem l04Site_src (g : Nat) (A : Option Addr) (n c K : Nat) (xs : List Int) (N : Nat) (w : World) (hK : K ≤ 100000) (hN1 : 1 ≤ N) (hN2 : N ≤ 13) (h : Src w g A n c xs K) :
    Calls Tryz.prog 125 #[.pointer (some ⟨g, 0, none⟩), .int .i64 (N : Int)] w fun e w' => ∃ v, e = .returned v ∧ StRow w.heap.size N w' v ∧ Src w' g A n c xs (K + 50) ∧ w.grownBy w' (some g) := by
  have hgl := h.lt
  go_enter Tryz.func125, Tryz.ntmps125
  go_wp2_with (at_make; refine make_own w.heap.size Tryz.underlying24 inf_int rfl rfl _ _ rfl .i64 .i64 N rfl rfl (by omega) (by omega) (Nat.le_refl _) ?_; intro w1 ho1 hb1 hz1)
  have hs1 := h.below hb1 hgl
  have hg1 : w.grownBy w1 (some g) := grown_bl (World.grownBy.refl w (some g)) hb1 (Nat.le_refl _)
  have ho1 : w1.ownsRow w.heap.size 2 1 (.slice (some ⟨w.heap.size, 0, none⟩) N N) N (ints (List.replicate N 0)) := by
    rw [ints, List.map_replicate]; exact ho1
  clear h hb1
  refine (pick_src g A n c K xs 5 w1 (by omega) (by omega) hs1).mono ?_
  rintro e w2 ⟨⟨kk, k0, k1, rfl⟩, hs2, hg2⟩
  have ho2 := own_ask ho1 hs1 hg2
  have hgg2 := grown_trans hg1 hg2
  have hz2 := hgg2.size
  have k5 : kk ≤ 15 := by omega
  clear hs1 hg1 hg2 ho1 k1 hz1
  go_wp2
  go_loopw [7] (fun i wr => Hid (∃ (k : Nat) (L : List Int), i = .int .i64 k ∧ k ≤ N ∧ L.length = N ∧ (∀ j : Nat, j < k → L.getD j 0 = kk) ∧ Src wr g A n c xs (K + 2) ∧ wr.ownsRow w.heap.size 2 1 (.slice (some ⟨w.heap.size, 0, none⟩) N N) N (ints L) ∧ w.grownBy wr (some g))) (fun i _ => N - (intOf i).toNat)
  case atStart => exact hid ⟨0, _, rfl, Nat.zero_le _, by simp, fun j hj => by omega, hs2, ho2, hgg2⟩
  case round =>
    clear hs2 ho2 hgg2 hz2
    obtain ⟨k, L, rfl, hk, hL, hall, hs, ho, hg⟩ := hrel.out
    clear hrel
    have hz := hg.size
    have hgw := (ho.lt w.heap.size rfl).2
    have HL := hid hL
    by_cases hlt : k < N
    · have hfr := ho.frozenAt k
      obtain ⟨u, hcu⟩ : ∃ u, wr.cell? ⟨w.heap.size, k, none⟩ = some u := by
        rw [ho.cellAt k (by omega)]
        exact ⟨_, ints_at (by omega)⟩
      obtain ⟨ho5, _⟩ := ho.stored k (.int .i64 kk)
      rw [ints_setD] at ho5
      have hb5 : Below w.heap.size wr (wr.setCell ⟨w.heap.size, k, none⟩ (.int .i64 kk)) := (by repeat' (first | exact Below.refl _ _ | (with_reducible first | assumption | exact Nat.le_refl _ | refine Below.alloc ?_ ?_ _ | refine Below.setCell ?_ ?_ _ | refine Below.drew ?_ | refine below_drewN ?_ _) | refine Below.trans ?_ (Below.mono (by assumption) ?_) | exact Below.size (by assumption) | omega | go_size | (simp at *; omega)))
      have HA : Hid (∀ j : Nat, j < k + 1 → (L.set k kk).getD j 0 = kk) := by
        intro j hj
        rw [List.getD_eq_getElem?_getD, List.getElem?_set]
        by_cases hjk : k = j
        · rw [if_pos hjk, if_pos (by omega)]; rfl
        · rw [if_neg hjk, ← List.getD_eq_getElem?_getD]; exact hall j (by omega)
      have HO := hid ho5
      clear ho5 ho hall hL
      go_wp2
      go_roundw
      case rel => exact hid ⟨k + 1, L.set k kk, by go_num, by omega, by rw [List.length_set]; exact HL.out, HA.out, hs.below hb5 hgl, HO.out, grown_bl hg hb5 (Nat.le_refl _)⟩
      case measure => simp [intOf]; omega
    · have hkN : k = N := by omega
      have HST : Hid (St N L) := St.const HL.out k0 k5 (by rw [← hkN]; exact hall)
      clear hkN hall hL HL
      go_wp2_with fail
      refine (pick_src g A n c (K + 2) xs 8 _ (by omega) (by omega) hs).mono ?_
      rintro e w3 ⟨⟨j, j0, j1, rfl⟩, hs3, hg3⟩
      have ho3 := own_ask ho hs hg3
      have hgg3 := grown_trans hg hg3
      have hz3 := hgg3.size
      obtain ⟨J, rfl⟩ := Int.eq_ofNat_of_zero_le j0
      have hJ : J ≤ 7 := by omega
      clear hs hg hg3 ho j1 hgw
      go_wp2
      go_loopw [8] (fun i wr => Hid (∃ (j : Nat) (L : List Int) (K2 : Nat), i = .int .i64 j ∧ j ≤ 7 ∧ Hid (St N L) ∧ K2 + 4 * j ≤ K + 40 ∧ Src wr g A n c xs K2 ∧ wr.ownsRow w.heap.size 2 1 (.slice (some ⟨w.heap.size, 0, none⟩) N N) N (ints L) ∧ w.grownBy wr (some g))) (fun i _ => (intOf i).toNat)
      case atStart => exact hid ⟨J, L, K + 2 + 2, rfl, hJ, HST, by omega, hs3, ho3, hgg3⟩
      case round =>
        clear hs3 ho3 hgg3 hz3 HST L
        obtain ⟨j, L, K2, rfl, hj, HST, hK2, hs, ho, hg⟩ := hrel.out
        clear hrel
        have hz := hg.size
        have HL := hid HST.out.len
        by_cases hj0 : 0 < j
        · by_cases hN : 1 < N
          · have hq1 : (0 : Int) < (j : Int) := by omega
            have hq2 : (1 : Int) < (N : Int) := by omega
            go_wp2_with fail
            refine (pick_src g A n c K2 xs ((N : Int) - 1) _ (by omega) (by omega) hs).mono ?_
            rintro e w4 ⟨⟨a, a0, a1, rfl⟩, hs4, hg4⟩
            have ho4 := own_ask ho hs hg4
            have hgg4 := grown_trans hg hg4
            obtain ⟨a, rfl⟩ := Int.eq_ofNat_of_zero_le a0
            have ha : a + 1 < N := by omega
            clear hs hg hg4 ho a1
            go_wp2_with fail
            refine (pick_src g A n c (K2 + 2) xs ((N : Int) - 1 - (a : Int)) _ (by omega) (by omega) hs4).mono ?_
            rintro e w5 ⟨⟨d, d0, d1, rfl⟩, hs5, hg5⟩
            have ho5 := own_ask ho4 hs4 hg5
            have hgg5 := grown_trans hgg4 hg5
            have hz5 := hgg5.size
            obtain ⟨d, rfl⟩ := Int.eq_ofNat_of_zero_le d0
            obtain ⟨b, hb⟩ : ∃ b, b = a + 1 + d := ⟨_, rfl⟩
            have hbN : b < N := by omega
            have hab : a < b := by omega
            have hbe : (a : Int) + 1 + (d : Int) = (b : Int) := by omega
            clear hs4 hgg4 hg5 ho4 d1
            have hgw := (ho5.lt w.heap.size rfl).2
            obtain ⟨xa, hxa⟩ : ∃ x, L.getD a 0 = x := ⟨_, rfl⟩
            obtain ⟨xb, hxb⟩ : ∃ x, L.getD b 0 = x := ⟨_, rfl⟩
            have hba := HST.out.bd a (by omega)
            have hbb := HST.out.bd b hbN
            rw [hxa] at hba
            rw [hxb] at hbb
            have ca : w5.cell? ⟨w.heap.size, a, none⟩ = some (.int .i64 xa) := by
              rw [ho5.cellAt a (by omega), ← hxa]
              exact ints_at (by have := HL.out; omega)
            have cb : w5.cell? ⟨w.heap.size, b, none⟩ = some (.int .i64 xb) := by
              rw [ho5.cellAt b (by omega), ← hxb]
              exact ints_at (by have := HL.out; omega)
            have fa := ho5.frozenAt a
            obtain ⟨ho6, _⟩ := ho5.stored a (.int .i64 (xb + (b : Int) - (a : Int)))
            rw [ints_setD] at ho6
            have fb := ho6.frozenAt b
            obtain ⟨ho7, _⟩ := ho6.stored b (.int .i64 (xa - ((b : Int) - (a : Int))))
            rw [ints_setD] at ho7
            have hsw : (L.set a (xb + (b : Int) - (a : Int))).set b (xa - ((b : Int) - (a : Int))) = swapP L a b := by
              unfold swapP
              rw [hxa, hxb, show xa - ((b : Int) - (a : Int)) = xa + (a : Int) - (b : Int) by omega]
            rw [hsw] at ho7
            have HO7 := hid ho7
            have hb7 : Below w.heap.size w5 ((w5.setCell ⟨w.heap.size, a, none⟩ (.int .i64 (xb + (b : Int) - (a : Int)))).setCell ⟨w.heap.size, b, none⟩ (.int .i64 (xa - ((b : Int) - (a : Int))))) := (by repeat' (first | exact Below.refl _ _ | (with_reducible first | assumption | exact Nat.le_refl _ | refine Below.alloc ?_ ?_ _ | refine Below.setCell ?_ ?_ _ | refine Below.drew ?_ | refine below_drewN ?_ _) | refine Below.trans ?_ (Below.mono (by assumption) ?_) | exact Below.size (by assumption) | omega | go_size | (simp at *; omega)))
            have cab : (w5.setCell ⟨w.heap.size, a, none⟩ (.int .i64 (xb + (b : Int) - (a : Int)))).cell? ⟨w.heap.size, b, none⟩ = some (.int .i64 xb) := by
              rw [ho6.cellAt b (by omega), ints_at (by rw [List.length_set]; have := HL.out; omega), List.getD_eq_getElem?_getD, List.getElem?_set, if_neg (by omega), ← List.getD_eq_getElem?_getD, hxb]
            have hne : a ≠ b := by omega
            have HXA := hid hxa
            have HXB := hid hxb
            clear hsw ho6 ho7 hxa hxb hb
            by_cases hy : 0 ≤ xa - ((b : Int) - (a : Int))
            · by_cases hx : xb + (b : Int) - (a : Int) ≤ 15
              · have HS2 : Hid (St N (swapP L a b)) := HST.out.swap hab hbN (by rw [HXB.out]; exact hx) (by rw [HXA.out]; omega)
                go_wp2
                go_roundw
                case rel => exact hid ⟨j - 1, swapP L a b, K2 + 2 + 2, by go_num, by omega, HS2, by omega, hs5.below hb7 hgl, HO7.out, grown_bl hgg5 hb7 (Nat.le_refl _)⟩
                case measure => simp [intOf]; omega
              · go_wp2
                go_roundw
                case rel => exact hid ⟨j - 1, L, K2 + 2 + 2, by go_num, by omega, HST, by omega, hs5, ho5, hgg5⟩
                case measure => simp [intOf]; omega
            · go_wp2
              go_roundw
              case rel => exact hid ⟨j - 1, L, K2 + 2 + 2, by go_num, by omega, HST, by omega, hs5, ho5, hgg5⟩
              case measure => simp [intOf]; omega
          · have hq2 : ¬ (1 : Int) < (N : Int) := by omega
            go_wp2
            go_ret
            exact ⟨_, rfl, ⟨L, HST.out, by rw [HL.out]; exact ho⟩, hs.more (by omega), hg⟩
        · have hq2 : ¬ (0 : Int) < (j : Int) := by omega
          go_wp2
          go_ret
          exact ⟨_, rfl, ⟨L, HST.out, by rw [HL.out]; exact ho⟩, hs.more (by omega), hg⟩
end Go.Proofs.YtgphkfnobmponaaGreat
