/- Contracts of the reference's functions on orders of hands, and the walk of the law of ValidHands. -/
import Derived.Test.YtopakpgmmfkcnaaV
namespace Go.Proofs.Ytopakpgmmfkcnaa
open Go.RowKit
set_option linter.unusedVariables false

theorem l00Max_any (a b : Int) (w : World) :
    Calls Try.prog 50 #[.int .i64 a, .int .i64 b] w fun e w' => e = .returned (.int .i64 (max a b)) ∧ w = w' := by
  by_cases h : b < a
  · go_enter Try.func50, Try.ntmps50
    go_wp2
    go_ret
    exact ⟨ret_int (by omega), rfl⟩
  · go_enter Try.func50, Try.ntmps50
    go_wp2
    go_ret
    exact ⟨ret_int (by omega), rfl⟩
theorem l14Count_any (A : Option Addr) (n c : Nat) (p : List Int) (w : World) (hn : n ≤ 1099511627776) (hn1 : 1 ≤ n) (hp : ∀ x ∈ p, 0 ≤ x ∧ x ≤ 3) (hr : Rd w w.heap.size 1 A n (ints p)) :
    Calls Try.prog 47 #[.slice A n c] w fun e w' => e = .returned (.int .i64 (hdCnt p)) ∧ w = w' := by
  have hlen := hr.len
  have hst : Hid (cntG 0 (p.drop 0) = hdCnt p) := by
    show _ = _
    exact cntG_zero p (fun e => by rw [e] at hlen; simp at hlen; omega) (fun x hx => (hp x hx).1)
  have HP := hid hp
  generalize hdCnt p = R at *
  clear hp
  go_enter Try.func47, Try.ntmps47
  go_wp2
  go_loop [3, 4] (fun v i => ∃ (k : Nat) (m : Int), k ≤ n ∧ i = .int .i64 k ∧ v = .int .i64 m ∧ 0 ≤ m ∧ m ≤ 4 ∧ Hid (cntG m (p.drop k) = R)) (fun _ i => n - (intOf i).toNat)
  case atStart => exact ⟨0, 0, Nat.zero_le _, rfl, rfl, by omega, by omega, hst⟩
  case round =>
    obtain ⟨k, m, hk, rfl, rfl, m0, m1, he⟩ := hrel
    by_cases hlt : k < n
    · obtain ⟨b, off, x, rfl, hb, hx, hd, hc⟩ := hr.at_ hlt
      obtain ⟨x0, x1⟩ := HP.out x (List.mem_of_getElem? hx)
      have he := he.out
      rw [hd, cntG] at he
      have HZ := hid he
      clear he hst hx hd hb hr hlen
      go_wp2_with (go_at_call 50; refine (l00Max_any _ _ _).mono ?_; rintro e w' ⟨rfl, rfl⟩)
      go_round
      case rel => exact ⟨k + 1, max m (x + 1), by omega, by go_num, rfl, by omega, by omega, HZ⟩
      case measure => simp [intOf]; omega
    · have : k = n := by omega
      subst this
      have he := he.out
      rw [List.drop_eq_nil_of_le (by omega)] at he
      have HZ := hid he
      clear he hst hr hlen
      go_wp2
      go_ret
      exact ⟨ret_int HZ.out, rfl⟩
theorem l00Has_any (A : Option Addr) (n c : Nat) (p : List Int) (h : Int) (w : World) (hn : n ≤ 1099511627776) (hr : Rd w w.heap.size 1 A n (ints p)) :
    Calls Try.prog 48 #[.slice A n c, .int .i64 h] w fun e w' => e = .returned (.bool (decide (h ∈ p))) ∧ w = w' := by
  have hlen := hr.len
  have hst : Hid (decide (h ∈ p.drop 0) = decide (h ∈ p)) := rfl
  generalize decide (h ∈ p) = R at *
  go_enter Try.func48, Try.ntmps48
  go_wp2
  go_loop [5] (fun i => ∃ k : Nat, k ≤ n ∧ i = .int .i64 k ∧ Hid (decide (h ∈ p.drop k) = R)) (fun i => n - (intOf i).toNat)
  case atStart => exact ⟨0, Nat.zero_le _, rfl, hst⟩
  case round =>
    obtain ⟨k, hk, rfl, he⟩ := hrel
    by_cases hlt : k < n
    · obtain ⟨b, off, x, rfl, hb, hx, hd, hc⟩ := hr.at_ hlt
      have he := he.out
      rw [hd] at he
      by_cases hxh : x = h
      · have hq : (x == h) = true := by simp [hxh]
        have HZ : Hid (R = true) := by show _ = _; rw [← he, hxh]; simp
        clear he hst hx hd hb hr hlen hxh
        go_wp2
        go_ret
        exact ⟨ret_bool HZ.out.symm, rfl⟩
      · have hq : (x == h) = false := by simpa using hxh
        have HZ : Hid (decide (h ∈ p.drop (k + 1)) = R) := by
          show _ = _
          rw [← he]
          have : ¬ h = x := fun e => hxh e.symm
          simp [this]
        clear he hst hx hd hb hr hlen hxh
        go_wp2
        go_round
        case rel => exact ⟨k + 1, by omega, by go_num, HZ⟩
        case measure => simp [intOf]; omega
    · have HZ : Hid (R = false) := by
        show _ = _
        rw [← he.out, List.drop_eq_nil_of_le (by omega)]; simp
      clear he hst hr hlen
      go_wp2
      go_ret
      exact ⟨ret_bool HZ.out.symm, rfl⟩
theorem l14Ok_any (A : Option Addr) (n c : Nat) (p : List Int) (w : World) (hn : n ≤ 1099511627776) (hr : Rd w w.heap.size 1 A n (ints p)) :
    Calls Try.prog 29 #[.slice A n c] w fun e w' => e = .returned (.bool (hdOk p)) ∧ w = w' := by
  have hlen := hr.len
  by_cases hbt : betweenB (n : Int) 1 12 = true
  · obtain ⟨R, hR⟩ : ∃ R, (p.drop 0).all (betweenB · 0 3) = R := ⟨_, rfl⟩
    have hR := hid hR
    have hth : Hid (hdOk p = (R && (List.range (hdCnt p).toNat).all fun h => decide ((h : Int) ∈ p))) := by show _ = _; rw [← hR.out, hdOk, hlen, hbt]; simp
    have hkb := (betweenB_iff _ _ _).1 hbt
    go_enter Try.func29, Try.ntmps29
    go_wp2_with (go_at_call 46; refine (l00In_any _ _ _ _).mono ?_; rintro e w' ⟨rfl, rfl⟩)
    go_loop [3] (fun i => ∃ k : Nat, k ≤ n ∧ i = .int .i64 k ∧ Hid ((p.drop k).all (betweenB · 0 3) = R)) (fun i => n - (intOf i).toNat)
    case atStart => exact ⟨0, Nat.zero_le _, rfl, hR⟩
    case round =>
      obtain ⟨k, hk, rfl, he⟩ := hrel
      by_cases hlt : k < n
      · obtain ⟨b, off, x, rfl, hb, hx, hd, hc⟩ := hr.at_ hlt
        by_cases hx2 : betweenB x 0 3 = true
        · have HZ := hid (all_step _ he.out hd hx2)
          clear he hR hth hx hd hb hr hlen
          go_wp2_with (go_at_call 46; refine (l00In_any _ _ _ _).mono ?_; rintro e w' ⟨rfl, rfl⟩)
          go_round
          case rel => exact ⟨k + 1, by omega, by go_num, HZ⟩
          case measure => simp [intOf]; omega
        · have hx2 : betweenB x 0 3 = false := by simpa using hx2
          have hF := all_stop _ he.out hd hx2
          have HZ : Hid (hdOk p = false) := by show _ = _; rw [hth.out, hF]; simp
          clear he hR hth hx hd hb hr hlen hF
          go_wp2_with (go_at_call 46; refine (l00In_any _ _ _ _).mono ?_; rintro e w' ⟨rfl, rfl⟩)
          go_ret
          exact ⟨ret_bool HZ.out.symm, rfl⟩
      · have hkn : k = n := by omega
        subst hkn
        have hR2 : R = true := by
          have := he.out
          rw [List.drop_eq_nil_of_le (by omega)] at this
          rw [← this]; rfl
        subst hR2
        have hall : ∀ x ∈ p, 0 ≤ x ∧ x ≤ 3 := by
          intro x hx
          have := hR.out
          rw [List.drop_zero, List.all_eq_true] at this
          exact (betweenB_iff _ _ _).1 (this x hx)
        have hcnt := hid (l14Count_any A k c p w hn (by omega) hall hr)
        have hHas := hid (fun (h : Int) => l00Has_any A k c p h w hn hr)
        have hcb : 0 ≤ maxF 0 p ∧ maxF 0 p ≤ 3 := maxF_bd p 0 3 (by omega) (fun x hx => (hall x hx).2)
        have hth2 : Hid (hdOk p = (List.range (hdCnt p).toNat).all fun h => decide ((h : Int) ∈ p)) := by show _ = _; rw [hth.out]; rfl
        obtain ⟨N, hN⟩ : ∃ N : Nat, hdCnt p = (N : Int) := ⟨(maxF 0 p + 1).toNat, by rw [hdCnt]; omega⟩
        have hN4 : N ≤ 4 := by rw [hdCnt] at hN; omega
        rw [hN] at hcnt hth2
        rw [Int.toNat_natCast] at hth2
        clear hN hcb he hR hth hr hlen hall
        go_wp2
        go_loop [4] (fun i => ∃ j : Nat, j ≤ N ∧ i = .int .i64 j ∧ Hid (∀ i : Nat, i < j → (i : Int) ∈ p)) (fun i => N - (intOf i).toNat)
        case atStart => exact ⟨0, Nat.zero_le _, rfl, fun i hi => absurd hi (by omega)⟩
        case round =>
          obtain ⟨j, hj, rfl, hall⟩ := hrel
          by_cases hlj : j < N
          · have hm0 := hHas.out (j : Int)
            by_cases hm : (j : Int) ∈ p
            · rw [decide_eq_true hm] at hm0
              have hm0 := hid hm0
              have HZ : Hid (∀ i : Nat, i < j + 1 → (i : Int) ∈ p) := fun i hi => by
                rcases Nat.lt_or_eq_of_le (Nat.le_of_lt_succ hi) with h | rfl
                · exact hall.out i h
                · exact hm
              clear hall hm
              go_wp2_with (first | (go_at_call 47; refine (hcnt.out).mono ?_; rintro e w' ⟨rfl, rfl⟩) | (go_at_call 48; refine (hm0.out).mono ?_; rintro e w' ⟨rfl, rfl⟩))
              go_round
              case rel => exact ⟨j + 1, by omega, by go_num, HZ⟩
              case measure => simp [intOf]; omega
            · rw [decide_eq_false hm] at hm0
              have hm0 := hid hm0
              have HZ : Hid (hdOk p = false) := by show _ = _; rw [hth2.out]; exact rng_stop hlj (eq_false hm)
              clear hall hm
              go_wp2_with (first | (go_at_call 47; refine (hcnt.out).mono ?_; rintro e w' ⟨rfl, rfl⟩) | (go_at_call 48; refine (hm0.out).mono ?_; rintro e w' ⟨rfl, rfl⟩))
              go_ret
              exact ⟨ret_bool HZ.out.symm, rfl⟩
          · have HZ : Hid (hdOk p = true) := by show _ = _; rw [hth2.out]; exact rng_all fun i hi => hall.out i (by omega)
            clear hall
            go_wp2_with (first | (go_at_call 47; refine (hcnt.out).mono ?_; rintro e w' ⟨rfl, rfl⟩))
            go_ret
            exact ⟨ret_bool HZ.out.symm, rfl⟩
  · have hbt : betweenB (n : Int) 1 12 = false := by simpa using hbt
    have HZ : Hid (hdOk p = false) := by show _ = _; rw [hdOk, hlen, hbt]; simp
    clear hr hlen
    go_enter Try.func29, Try.ntmps29
    go_wp2_with (go_at_call 46; refine (l00In_any _ _ _ _).mono ?_; rintro e w' ⟨rfl, rfl⟩)
    go_ret
    exact ⟨ret_bool HZ.out.symm, rfl⟩
def rValidHands (p : List Int) : Bool := hdOk p
theorem specValidHands_any (A : Option Addr) (n c : Nat) (p : List Int) (w : World) (hn : n ≤ 1099511627776) (hr : Rd w w.heap.size 1 A n (ints p)) :
    Calls Try.prog 14 #[.slice A n c] w fun e w' => e = .returned (.bool (hdOk p)) ∧ Below w.heap.size w w' := by
  have h1 := hid (l14Ok_any A n c p w hn hr)
  clear hr
  go_enter Try.func14, Try.ntmps14
  go_wp2_with (go_at_call 29; refine (h1.out).mono ?_; rintro e w' ⟨rfl, rfl⟩)
  go_ret
  exact ⟨rfl, (by repeat' (first | exact Below.refl _ _ | (with_reducible assumption) | (with_reducible refine Below.alloc ?_ ?_ _) | (with_reducible refine Below.setCell ?_ ?_ _) | (with_reducible refine Below.drew ?_) | (with_reducible refine below_drewN ?_ _) | (refine Below.trans ?_ (Below.mono (by assumption) ?_)) | (with_reducible exact Nat.le_refl _) | (with_reducible assumption) | (exact Below.size (by assumption)) | omega | go_size | (simp at *; omega)))⟩
end Go.Proofs.Ytopakpgmmfkcnaa
