/- Contracts of SlideSync and PairUp. -/
import Derived.Test.YtjagejalchfhlaaYl
import Derived.Test.YtjagejalchfhlaaYm
import Derived.Test.YtjagejalchfhlaaTh
import Derived.Test.YtjagejalchfhlaaCb
import Derived.Test.YtjagejalchfhlaaCo
import Derived.Deep.RegionHeld3
import Derived.Deep.LoopGhost
import Derived.Deep.DeepCutAuto
namespace Go.Proofs.Ytjagejalchfhlaa
open Go.RowKit
set_option linter.unusedVariables false

/-- A list of numbers of the call's own, and a code. -/
def ItRes (B : Nat) (r : List Int × Int) (e : Ending) (w : World) : Prop := ∃ A c, (A = none → c = 0) ∧ e = .returned (.tuple #[.slice A r.1.length c, .int .i64 r.2]) ∧ w.ownsRow B 2 1 (.slice A r.1.length c) r.1.length (ints r.1)
theorem ItRes.none_ (B : Nat) (w : World) (x : Int) : ItRes B ([], x) (.returned (.tuple #[.slice none 0 0, .int .i64 x])) w := ⟨none, 0, fun _ => rfl, rfl, World.ownsRow_nil _ _ _ _⟩
theorem ItRes.mk {B n : Nat} {v : Value} {w : World} {q : List Int} {x : Int} (hl : q.length = n) (h : w.ownsRow B 2 1 v n (ints q)) : ItRes B (q, x) (.returned (.tuple #[v, .int .i64 x])) w := by
  subst hl
  obtain ⟨A, c, rfl, hA⟩ := own_form3 h
  exact ⟨A, c, hA, rfl, h⟩
theorem slV_even {k : Nat} {v : Int} (h : k % 2 = 0) : slV k (v, true) = v + 1 := by simp [slV, h]
theorem slV_odd {k : Nat} {v : Int} (h : ¬ k % 2 = 0) : slV k (v, true) = v - 1 := by simp [slV, h]
theorem slV_no {k : Nat} {v : Int} : slV k (v, false) = v := by simp [slV]
set_option maxHeartbeats 400000 in
theorem slid_any (A : Option Addr) (n c : Nat) (p : List Beat) (w : World) (hp : syOk p = true) (hr : Rd w w.heap.size 4 A n (bts p)) :
    Calls Try.prog 104 #[.slice A n c] w fun e w' => ∃ v, e = .returned v ∧ w'.ownsRow w.heap.size 2 1 v (slP p).length (ints (slP p)) ∧ Below w.heap.size w w' := by
  have hlen := hr.bt_len
  obtain ⟨h1, h6⟩ := syOk_bd hp
  have hbd := hid (fun k => nth_bd (syOk_b hp) k)
  rw [hlen] at h1 h6
  obtain ⟨N, hN⟩ : ∃ N : Nat, 2 * (n : Int) = (N : Int) := ⟨2 * n, by omega⟩
  have hNn : N = 2 * n := by omega
  have hG := hid (fun (w1 : World) (b : Below w.heap.size w w1) (k : Nat) (hk : k < N) => numbered_any A n c k p w1 (by omega) (by omega) ((hr.below b (Nat.le_refl _)).more b.size))
  have hst : Hid (([] : List Int) = (slP p).take 0) := by show _ = _; simp
  have hstep := hid (fun (k : Nat) (h : k < N) => show (slP p).take (k + 1) = (slP p).take k ++ [slV k (nth p k)] from slP_step (by omega))
  have hRl := hid (show (slP p).length = N by rw [slP_len, hlen, hNn])
  have hN6 : N ≤ 12 := by omega
  generalize slP p = R at *
  clear hr hp hlen hNn
  go_enter Try.func104, Try.ntmps104
  go_wp2
  clear hN
  go_loopw [3, 11] (fun v i wr => Hid (∃ k : Nat, k ≤ N ∧ i = .int .i64 k ∧ wr.ownsRow w.heap.size 2 1 v (R.take k).length (ints (R.take k)) ∧ Below w.heap.size w wr)) (fun _ i _ => N - (intOf i).toNat)
  case atStart => exact hid ⟨0, Nat.zero_le _, rfl, by rw [← hst.out]; exact World.ownsRow_lit _ _ 0 (Nat.le_refl _) (by simp [maxLen]) rfl, (by repeat' (first | exact Below.refl _ _ | (with_reducible assumption) | (with_reducible refine Below.alloc ?_ ?_ _) | (with_reducible refine Below.setCell ?_ ?_ _) | (with_reducible refine Below.drew ?_) | (with_reducible refine below_drewN ?_ _) | (refine Below.trans ?_ (Below.mono (by assumption) ?_)) | (with_reducible exact Nat.le_refl _) | (with_reducible assumption) | (exact Below.size (by assumption)) | omega | go_size | (simp at *; omega)))⟩
  case round =>
    obtain ⟨k, hk, rfl, ho, hb0⟩ := hrel.out
    have hkl : (R.take k).length ≤ 12 := by rw [List.length_take, hRl.out]; omega
    have hz := hb0.size
    clear hrel
    by_cases hlt : k < N
    · have hs := hid (hstep.out k hlt)
      have hC := hid (hG.out _ hb0 k hlt)
      obtain ⟨v0, v1⟩ := hbd.out k
      generalize nth p k = t at *
      obtain ⟨v, cr⟩ := t
      simp only at v0 v1
      generalize R.take k = out at *
      cases cr
      · have hs := hid (show R.take (k + 1) = out ++ [v] by rw [hs.out, slV_no])
        go_wp2_with fail
        refine hC.out.mono ?_
        rintro e w3 ⟨rfl, hb3⟩
        have ho := own_below ho hb3
        have hz3 := hb3.size
        have hb3 := bchain hb0 hb3
        have hoa := hid (fun o => ho.alloc o)
        clear ho
        go_wp2_with (at_builtin; refine push_intH (hoa.out _) v _ Try.underlying36 inf_int rfl rfl _ _ rfl rfl rfl (by simp) (by omega) (by simp; omega) ?_; intro v4 w4 ho4 hb4 hg4)
        go_roundw
        case rel => exact hid ⟨k + 1, by omega, by go_num, by rw [hs.out]; exact ho4, (by repeat' (first | exact Below.refl _ _ | (with_reducible assumption) | (with_reducible refine Below.alloc ?_ ?_ _) | (with_reducible refine Below.setCell ?_ ?_ _) | (with_reducible refine Below.drew ?_) | (with_reducible refine below_drewN ?_ _) | (refine Below.trans ?_ (Below.mono (by assumption) ?_)) | (with_reducible exact Nat.le_refl _) | (with_reducible assumption) | (exact Below.size (by assumption)) | omega | go_size | (simp at *; omega)))⟩
        case measure => simp [intOf]; omega
      · by_cases hpar : k % 2 = 0
        · have hs := hid (show R.take (k + 1) = out ++ [v + 1] by rw [hs.out, slV_even hpar])
          have hq : ((k : Int) % 2 == 0) = true := by simp; omega
          clear hpar
          go_wp2_with fail
          refine hC.out.mono ?_
          rintro e w3 ⟨rfl, hb3⟩
          have ho := own_below ho hb3
          have hz3 := hb3.size
          have hb3 := bchain hb0 hb3
          have hoa := hid (fun o => ho.alloc o)
          clear ho
          go_wp2_with (at_builtin; refine push_intH (hoa.out _) (v + 1) _ Try.underlying36 inf_int rfl rfl _ _ rfl rfl rfl (by simp) (by omega) (by simp; omega) ?_; intro v4 w4 ho4 hb4 hg4)
          go_roundw
          case rel => exact hid ⟨k + 1, by omega, by go_num, by rw [hs.out]; exact ho4, (by repeat' (first | exact Below.refl _ _ | (with_reducible assumption) | (with_reducible refine Below.alloc ?_ ?_ _) | (with_reducible refine Below.setCell ?_ ?_ _) | (with_reducible refine Below.drew ?_) | (with_reducible refine below_drewN ?_ _) | (refine Below.trans ?_ (Below.mono (by assumption) ?_)) | (with_reducible exact Nat.le_refl _) | (with_reducible assumption) | (exact Below.size (by assumption)) | omega | go_size | (simp at *; omega)))⟩
          case measure => simp [intOf]; omega
        · have hs := hid (show R.take (k + 1) = out ++ [v - 1] by rw [hs.out, slV_odd hpar])
          have hq : ((k : Int) % 2 == 0) = false := by simp; omega
          clear hpar
          go_wp2_with fail
          refine hC.out.mono ?_
          rintro e w3 ⟨rfl, hb3⟩
          have ho := own_below ho hb3
          have hz3 := hb3.size
          have hb3 := bchain hb0 hb3
          have hoa := hid (fun o => ho.alloc o)
          clear ho
          go_wp2_with (at_builtin; refine push_intH (hoa.out _) (v - 1) _ Try.underlying36 inf_int rfl rfl _ _ rfl rfl rfl (by simp) (by omega) (by simp; omega) ?_; intro v4 w4 ho4 hb4 hg4)
          go_roundw
          case rel => exact hid ⟨k + 1, by omega, by go_num, by rw [hs.out]; exact ho4, (by repeat' (first | exact Below.refl _ _ | (with_reducible assumption) | (with_reducible refine Below.alloc ?_ ?_ _) | (with_reducible refine Below.setCell ?_ ?_ _) | (with_reducible refine Below.drew ?_) | (with_reducible refine below_drewN ?_ _) | (refine Below.trans ?_ (Below.mono (by assumption) ?_)) | (with_reducible exact Nat.le_refl _) | (with_reducible assumption) | (exact Below.size (by assumption)) | omega | go_size | (simp at *; omega)))⟩
          case measure => simp [intOf]; omega
    · have hkn : k = N := by omega
      subst hkn
      rw [List.take_of_length_le (by rw [hRl.out]; exact Nat.le_refl _)] at ho
      go_wp2
      go_ret
      exact ⟨_, rfl, ho, hb0⟩
theorem SlideSync_any (A : Option Addr) (n c : Nat) (p : List Beat) (w : World) (hn : n ≤ 1099511627776) (hr : Rd w w.heap.size 4 A n (bts p)) :
    Calls Try.prog 27 #[.slice A n c] w fun e w' => ItRes w.heap.size (rSlide p) e w' ∧ Below w.heap.size w w' := by
  have hV := ValidSync_any A n c p w hn hr
  cases hp : syOk p with
  | true =>
    rw [hp] at hV
    have hV := hid hV
    have hM := hid (fun (w1 : World) (b : Below w.heap.size w w1) => slid_any A n c p w1 hp ((hr.below b (Nat.le_refl _)).more b.size))
    have HO : Hid (rSlide p = (slP p, 0)) := by show _ = _; simp [rSlide, hp]
    clear hr hp
    go_enter Try.func27, Try.ntmps27
    go_wp2_with fail
    refine hV.out.mono ?_
    rintro e w1 ⟨rfl, hb1⟩
    go_wp2_with fail
    refine (hM.out w1 hb1).mono ?_
    rintro e w2 ⟨v2, rfl, ho2, hb2⟩
    go_wp2
    go_ret2
    exact ⟨by rw [HO.out]; exact ItRes.mk rfl (own_more ho2 hb1.size), (by repeat' (first | exact Below.refl _ _ | (with_reducible assumption) | (with_reducible refine Below.alloc ?_ ?_ _) | (with_reducible refine Below.setCell ?_ ?_ _) | (with_reducible refine Below.drew ?_) | (with_reducible refine below_drewN ?_ _) | (refine Below.trans ?_ (Below.mono (by assumption) ?_)) | (with_reducible exact Nat.le_refl _) | (with_reducible assumption) | (exact Below.size (by assumption)) | omega | go_size | (simp at *; omega)))⟩
  | false =>
    rw [hp] at hV
    have hV := hid hV
    have HO : Hid (rSlide p = ([], 1)) := by show _ = _; simp [rSlide, hp]
    clear hr hp
    go_enter Try.func27, Try.ntmps27
    go_wp2_with fail
    refine hV.out.mono ?_
    rintro e w1 ⟨rfl, hb1⟩
    go_wp2
    go_ret2
    exact ⟨by rw [HO.out]; exact ItRes.none_ _ _ _, (by repeat' (first | exact Below.refl _ _ | (with_reducible assumption) | (with_reducible refine Below.alloc ?_ ?_ _) | (with_reducible refine Below.setCell ?_ ?_ _) | (with_reducible refine Below.drew ?_) | (with_reducible refine below_drewN ?_ _) | (refine Below.trans ?_ (Below.mono (by assumption) ?_)) | (with_reducible exact Nat.le_refl _) | (with_reducible assumption) | (exact Below.size (by assumption)) | omega | go_size | (simp at *; omega)))⟩
theorem l05Slide_any (A : Option Addr) (n c k : Nat) (p : List Beat) (w : World) (hn : n ≤ 6) (hp : beatsOk p = true) (hk : k < 2 * n) (hr : Rd w w.heap.size 4 A n (bts p)) :
    Calls Try.prog 105 #[.slice A n c, .int .i64 (k : Int)] w fun e w' => e = .returned (.int .i64 (slV k (nth p k))) ∧ Below w.heap.size w w' := by
  have hC := hid (l05At_any A n c k p w (by omega) hk hr)
  obtain ⟨v0, v1⟩ := nth_bd hp k
  generalize nth p k = t at *
  obtain ⟨v, cr⟩ := t
  simp only at v0 v1
  clear hr hp
  cases cr
  · have hs := hid (slV_no (k := k) (v := v))
    go_enter Try.func105, Try.ntmps105
    go_wp2_with fail
    refine hC.out.mono ?_
    rintro e w3 ⟨rfl, hb3⟩
    go_wp2
    go_ret
    exact ⟨ret_int hs.out.symm, (by repeat' (first | exact Below.refl _ _ | (with_reducible assumption) | (with_reducible refine Below.alloc ?_ ?_ _) | (with_reducible refine Below.setCell ?_ ?_ _) | (with_reducible refine Below.drew ?_) | (with_reducible refine below_drewN ?_ _) | (refine Below.trans ?_ (Below.mono (by assumption) ?_)) | (with_reducible exact Nat.le_refl _) | (with_reducible assumption) | (exact Below.size (by assumption)) | omega | go_size | (simp at *; omega)))⟩
  · by_cases hpar : k % 2 = 0
    · have hs := hid (slV_even (v := v) hpar)
      have hq : ((k : Int) % 2 == 0) = true := by simp; omega
      clear hpar
      go_enter Try.func105, Try.ntmps105
      go_wp2_with fail
      refine hC.out.mono ?_
      rintro e w3 ⟨rfl, hb3⟩
      go_wp2
      go_ret
      exact ⟨ret_int hs.out.symm, (by repeat' (first | exact Below.refl _ _ | (with_reducible assumption) | (with_reducible refine Below.alloc ?_ ?_ _) | (with_reducible refine Below.setCell ?_ ?_ _) | (with_reducible refine Below.drew ?_) | (with_reducible refine below_drewN ?_ _) | (refine Below.trans ?_ (Below.mono (by assumption) ?_)) | (with_reducible exact Nat.le_refl _) | (with_reducible assumption) | (exact Below.size (by assumption)) | omega | go_size | (simp at *; omega)))⟩
    · have hs := hid (slV_odd (v := v) hpar)
      have hq : ((k : Int) % 2 == 0) = false := by simp; omega
      clear hpar
      go_enter Try.func105, Try.ntmps105
      go_wp2_with fail
      refine hC.out.mono ?_
      rintro e w3 ⟨rfl, hb3⟩
      go_wp2
      go_ret
      exact ⟨ret_int hs.out.symm, (by repeat' (first | exact Below.refl _ _ | (with_reducible assumption) | (with_reducible refine Below.alloc ?_ ?_ _) | (with_reducible refine Below.setCell ?_ ?_ _) | (with_reducible refine Below.drew ?_) | (with_reducible refine below_drewN ?_ _) | (refine Below.trans ?_ (Below.mono (by assumption) ?_)) | (with_reducible exact Nat.le_refl _) | (with_reducible assumption) | (exact Below.size (by assumption)) | omega | go_size | (simp at *; omega)))⟩
set_option maxHeartbeats 400000 in
theorem specSlideSync_any (A : Option Addr) (n c : Nat) (p : List Beat) (w : World) (hn : n ≤ 1099511627776) (hr : Rd w w.heap.size 4 A n (bts p)) :
    Calls Try.prog 28 #[.slice A n c] w fun e w' => ItRes w.heap.size (rSlide p) e w' ∧ Below w.heap.size w w' := by
  have hV := l05Ok_any A n c p w hn hr
  have hlen := hr.bt_len
  cases hp : syOk p with
  | true =>
    rw [hp] at hV
    have hV := hid hV
    have HO : Hid (rSlide p = (slP p, 0)) := by show _ = _; simp [rSlide, hp]
    obtain ⟨h1, h6⟩ := syOk_bd hp
    rw [hlen] at h1 h6
    obtain ⟨N, hN⟩ : ∃ N : Nat, 2 * (n : Int) = (N : Int) := ⟨2 * n, by omega⟩
    have hNn : N = 2 * n := by omega
    have hG := hid (fun (w1 : World) (b : Below w.heap.size w w1) (k : Nat) (hk : k < N) => l05Slide_any A n c k p w1 (by omega) (syOk_b hp) (by omega) ((hr.below b (Nat.le_refl _)).more b.size))
    have hst : Hid (([] : List Int) = (slP p).take 0) := by show _ = _; simp
    have hstep := hid (fun (k : Nat) (h : k < N) => show (slP p).take (k + 1) = (slP p).take k ++ [slV k (nth p k)] from slP_step (by omega))
    have hRl := hid (show (slP p).length = N by rw [slP_len, hlen, hNn])
    have hN6 : N ≤ 12 := by omega
    generalize slP p = R at *
    clear hr hp hlen hNn
    go_enter Try.func28, Try.ntmps28
    go_wp2_with fail
    refine hV.out.mono ?_
    rintro e w1 ⟨rfl, hb1⟩
    have hz1 := hb1.size
    go_wp2
    go_loopw [4, 5] (fun v i wr => Hid (∃ k : Nat, k ≤ N ∧ i = .int .i64 k ∧ wr.ownsRow w.heap.size 2 1 v (R.take k).length (ints (R.take k)) ∧ Below w.heap.size w wr)) (fun _ i _ => N - (intOf i).toNat)
    case atStart => exact hid ⟨0, Nat.zero_le _, rfl, by rw [← hst.out]; exact World.ownsRow_lit _ _ 0 hz1 (by simp [maxLen]) rfl, (by repeat' (first | exact Below.refl _ _ | (with_reducible assumption) | (with_reducible refine Below.alloc ?_ ?_ _) | (with_reducible refine Below.setCell ?_ ?_ _) | (with_reducible refine Below.drew ?_) | (with_reducible refine below_drewN ?_ _) | (refine Below.trans ?_ (Below.mono (by assumption) ?_)) | (with_reducible exact Nat.le_refl _) | (with_reducible assumption) | (exact Below.size (by assumption)) | omega | go_size | (simp at *; omega)))⟩
    case round =>
      obtain ⟨k, hk, rfl, ho, hb0⟩ := hrel.out
      have hkl : (R.take k).length ≤ 12 := by rw [List.length_take, hRl.out]; omega
      have hz := hb0.size
      clear hrel
      by_cases hlt : k < N
      · have hs := hid (hstep.out k hlt)
        have hC := hid (hG.out _ hb0 k hlt)
        generalize slV k (nth p k) = x at *
        generalize R.take k = out at *
        go_wp2_with fail
        refine hC.out.mono ?_
        rintro e w3 ⟨rfl, hb3⟩
        have ho := own_below ho hb3
        have hb3 := bchain hb0 hb3
        have hz3 := hb3.size
        go_wp2_with (at_builtin; refine push_int ho (x) _ Try.underlying36 inf_int rfl rfl _ _ rfl rfl rfl (by omega) (by omega) ?_; intro v1 w1 ho1 hb1 hg1)
        go_roundw
        case rel => exact hid ⟨k + 1, by omega, by go_num, by rw [hs.out]; first | exact ho1 | exact ho_1 | assumption, (by repeat' (first | exact Below.refl _ _ | (with_reducible assumption) | (with_reducible refine Below.alloc ?_ ?_ _) | (with_reducible refine Below.setCell ?_ ?_ _) | (with_reducible refine Below.drew ?_) | (with_reducible refine below_drewN ?_ _) | (refine Below.trans ?_ (Below.mono (by assumption) ?_)) | (with_reducible exact Nat.le_refl _) | (with_reducible assumption) | (exact Below.size (by assumption)) | omega | go_size | (simp at *; omega)))⟩
        case measure => simp [intOf]; omega
      · have hkn : k = N := by omega
        subst hkn
        rw [List.take_of_length_le (by rw [hRl.out]; exact Nat.le_refl _)] at ho
        go_wp2
        go_ret2
        exact ⟨by rw [HO.out]; exact ItRes.mk rfl ho, hb0⟩
  | false =>
    rw [hp] at hV
    have hV := hid hV
    have HO : Hid (rSlide p = ([], 1)) := by show _ = _; simp [rSlide, hp]
    clear hr hp
    go_enter Try.func28, Try.ntmps28
    go_wp2_with fail
    refine hV.out.mono ?_
    rintro e w1 ⟨rfl, hb1⟩
    go_wp2
    go_ret2
    exact ⟨by rw [HO.out]; exact ItRes.none_ _ _ _, (by repeat' (first | exact Below.refl _ _ | (with_reducible assumption) | (with_reducible refine Below.alloc ?_ ?_ _) | (with_reducible refine Below.setCell ?_ ?_ _) | (with_reducible refine Below.drew ?_) | (with_reducible refine below_drewN ?_ _) | (refine Below.trans ?_ (Below.mono (by assumption) ?_)) | (with_reducible exact Nat.le_refl _) | (with_reducible assumption) | (exact Below.size (by assumption)) | omega | go_size | (simp at *; omega)))⟩
end Go.Proofs.Ytjagejalchfhlaa
