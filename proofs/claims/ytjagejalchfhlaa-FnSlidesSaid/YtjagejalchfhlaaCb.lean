/- Contracts of sameNumbers and repeated. -/
import Derived.Test.YtjagejalchfhlaaCn
import Derived.Test.YtjagejalchfhlaaPx
import Derived.Test.YtjagejalchfhlaaTu
import Derived.Test.YtjagejalchfhlaaLa
import Derived.Deep.RegionWith
namespace Go.Proofs.Ytjagejalchfhlaa
open Go.RowKit
set_option linter.unusedVariables false

theorem rotP_win {p : List Int} (h : okP p = true) (b : Int) : rotP (winP p 0) b = winP p b := by
  have hp := (thOk_iff (okP_th h)).2.1
  obtain ⟨_, p3, _, _⟩ := rtN_spec hp
  refine atB_ext (by rw [rotP_len, winP_len, winP_len]) fun x => ?_
  rw [rotP_at (by rw [winP_len]; exact p3), winP_at hp, winP_at hp, Int.add_zero]
theorem sameNumbers_any (A A' : Option Addr) (n n' c c' : Nat) (xs ys : List Int) (w : World) (hn : n ≤ 1099511627776) (hn' : n' ≤ 1099511627776) (h : Rd w w.heap.size 1 A n (ints xs)) (h' : Rd w w.heap.size 1 A' n' (ints ys)) :
    Calls Try.prog 168 #[.slice A n c, .slice A' n' c'] w fun e w' => e = .returned (.bool (decide (xs = ys))) ∧ Below w.heap.size w w' := by
  have hl := h.len
  have hl' := h'.len
  by_cases hnn : n = n'
  · subst hnn
    have hst : Hid (decide (xs.drop 0 = ys.drop 0) = decide (xs = ys)) := rfl
    go_enter Try.func168, Try.ntmps168
    go_wp2
    go_loopw [13] (fun i wr => ∃ k : Nat, k ≤ n ∧ i = .int .i64 k ∧ Hid (decide (xs.drop k = ys.drop k) = decide (xs = ys)) ∧ Below w.heap.size w wr) (fun i _ => n - (intOf i).toNat)
    case atStart => exact ⟨0, Nat.zero_le _, rfl, hst, Below.refl _ _⟩
    case round =>
    obtain ⟨k, hk, rfl, he, hb0⟩ := hrel
    by_cases hlt : k < n
    · obtain ⟨b, off, x, rfl, hb, hx, hd, hc⟩ := (h.below hb0 (Nat.le_refl _)).at_ hlt
      obtain ⟨b', off', x', rfl, hb', hx', hd', hc'⟩ := (h'.below hb0 (Nat.le_refl _)).at_ hlt
      by_cases hxx : x = x'
      · have hq : (x != x') = false := by simp [hxx]
        have HZ : Hid (decide (xs.drop (k + 1) = ys.drop (k + 1)) = decide (xs = ys)) := by
          show _ = _
          rw [← he.out, hd, hd', hxx]; simp
        clear hx hx' hd hd' he hst h h' hb hb' hl hl' hxx
        go_wp2
        go_quiet (fail)
        go_wp2
        go_roundw
        case rel => exact ⟨k + 1, by omega, by go_num, HZ, (by repeat' (first | exact Below.refl _ _ | (with_reducible assumption) | (with_reducible refine Below.alloc ?_ ?_ _) | (with_reducible refine Below.setCell ?_ ?_ _) | (with_reducible refine Below.drew ?_) | (with_reducible refine below_drewN ?_ _) | (refine Below.trans ?_ (Below.mono (by assumption) ?_)) | (with_reducible exact Nat.le_refl _) | (with_reducible assumption) | (exact Below.size (by assumption)) | omega | go_size | (simp at *; omega)))⟩
        case measure => simp [intOf]; omega
      · have hq : (x != x') = true := by simpa using hxx
        have HZ : Hid (decide (xs = ys) = false) := by
          show _ = _
          rw [← he.out, hd, hd']; simp [hxx]
        clear hx hx' hd hd' he hst h h' hb hb' hl hl' hxx
        go_wp2
        go_quiet (fail)
        go_wp2
        go_ret
        exact ⟨ret_bool HZ.out.symm, (by repeat' (first | exact Below.refl _ _ | (with_reducible assumption) | (with_reducible refine Below.alloc ?_ ?_ _) | (with_reducible refine Below.setCell ?_ ?_ _) | (with_reducible refine Below.drew ?_) | (with_reducible refine below_drewN ?_ _) | (refine Below.trans ?_ (Below.mono (by assumption) ?_)) | (with_reducible exact Nat.le_refl _) | (with_reducible assumption) | (exact Below.size (by assumption)) | omega | go_size | (simp at *; omega)))⟩
    · have HZ : Hid (decide (xs = ys) = true) := by
        show _ = _
        rw [← he.out, List.drop_eq_nil_of_le (by omega), List.drop_eq_nil_of_le (by omega)]; rfl
      clear he hst hl hl' h h'
      go_wp2
      go_ret
      exact ⟨ret_bool HZ.out.symm, (by repeat' (first | exact Below.refl _ _ | (with_reducible assumption) | (with_reducible refine Below.alloc ?_ ?_ _) | (with_reducible refine Below.setCell ?_ ?_ _) | (with_reducible refine Below.drew ?_) | (with_reducible refine below_drewN ?_ _) | (refine Below.trans ?_ (Below.mono (by assumption) ?_)) | (with_reducible exact Nat.le_refl _) | (with_reducible assumption) | (exact Below.size (by assumption)) | omega | go_size | (simp at *; omega)))⟩
  · have HZ : Hid (decide (xs = ys) = false) := by
      show _ = _
      refine decide_eq_false fun e => hnn ?_
      rw [← hl, ← hl', e]
    clear hl hl' h h'
    go_enter Try.func168, Try.ntmps168
    go_wp2
    go_ret
    exact ⟨ret_bool HZ.out.symm, (by repeat' (first | exact Below.refl _ _ | (with_reducible assumption) | (with_reducible refine Below.alloc ?_ ?_ _) | (with_reducible refine Below.setCell ?_ ?_ _) | (with_reducible refine Below.drew ?_) | (with_reducible refine below_drewN ?_ _) | (refine Below.trans ?_ (Below.mono (by assumption) ?_)) | (with_reducible exact Nat.le_refl _) | (with_reducible assumption) | (exact Below.size (by assumption)) | omega | go_size | (simp at *; omega)))⟩

theorem repeated_ok (A : Option Addr) (n c : Nat) (p : List Int) (t : Nat) (w : World) (hn1 : 1 ≤ n) (hn : n ≤ 12) (ht : t ≤ 12) (hr : Rd w w.heap.size 1 A n (ints p)) :
    Calls Try.prog 110 #[.slice A n c, .int .i64 (t : Int)] w fun e w' => ∃ v, e = .returned v ∧ w'.ownsRow w.heap.size 2 1 v (repP p t).length (ints (repP p t)) ∧ Below w.heap.size w w' := by
  have hlen := hr.len
  have hA : A = none → c = 0 := by
    obtain ⟨b, off, e, _⟩ := hr.2 (by omega)
    intro h; rw [h] at e; cases e
  have HA := hid hA
  have HR := hid hr
  have hst : Hid (([] : List Int) = repP p 0) := rfl
  have hstep := hid (fun k => show repP p (k + 1) = repP p k ++ p from rfl)
  have hbd := hid (fun (k : Nat) (h : k ≤ 12) => show (repP p k).length ≤ 144 from by
    rw [repP_len]
    have := Nat.mul_le_mul h (show p.length ≤ 12 by omega)
    omega)
  clear hA hr hlen
  go_enter Try.func110, Try.ntmps110
  go_wp2
  go_loopw [5, 8] (fun v i wr => Hid (∃ k : Nat, k ≤ t ∧ i = .int .i64 k ∧ wr.ownsRow w.heap.size 2 1 v (repP p k).length (ints (repP p k)) ∧ Below w.heap.size w wr)) (fun _ i _ => t - (intOf i).toNat)
  case atStart => exact hid ⟨0, Nat.zero_le _, rfl, by rw [← hst.out]; exact World.ownsRow_lit _ _ 0 (Nat.le_refl _) (by simp [maxLen]) rfl, (by repeat' (first | exact Below.refl _ _ | (with_reducible assumption) | (with_reducible refine Below.alloc ?_ ?_ _) | (with_reducible refine Below.setCell ?_ ?_ _) | (with_reducible refine Below.drew ?_) | (with_reducible refine below_drewN ?_ _) | (refine Below.trans ?_ (Below.mono (by assumption) ?_)) | (with_reducible exact Nat.le_refl _) | (with_reducible assumption) | (exact Below.size (by assumption)) | omega | go_size | (simp at *; omega)))⟩
  case round =>
    obtain ⟨k, hk, rfl, ho, hb0⟩ := hrel.out
    clear hrel
    have hkl := hbd.out k (by omega)
    have hz := hb0.size
    by_cases hlt : k < t
    · have hs := hid (hstep.out k)
      generalize repP p k = R at *
      go_wp2_with (at_builtin; refine app_ints ho A n c p ((HR.out.below hb0 (Nat.le_refl _)).more hz) HA.out Try.underlying36 inf_int rfl rfl _ _ rfl rfl rfl (by omega) hz ?_; intro v1 w1 ho1 hb1 hg1)
      go_roundw
      case rel => exact hid ⟨k + 1, by omega, by go_num, by rw [hs.out]; exact ho1, (by repeat' (first | exact Below.refl _ _ | (with_reducible assumption) | (with_reducible refine Below.alloc ?_ ?_ _) | (with_reducible refine Below.setCell ?_ ?_ _) | (with_reducible refine Below.drew ?_) | (with_reducible refine below_drewN ?_ _) | (refine Below.trans ?_ (Below.mono (by assumption) ?_)) | (with_reducible exact Nat.le_refl _) | (with_reducible assumption) | (exact Below.size (by assumption)) | omega | go_size | (simp at *; omega)))⟩
      case measure => simp [intOf]; omega
    · have hkt : k = t := by omega
      subst hkt
      go_wp2
      go_ret
      exact ⟨_, rfl, ho, hb0⟩
end Go.Proofs.Ytjagejalchfhlaa
