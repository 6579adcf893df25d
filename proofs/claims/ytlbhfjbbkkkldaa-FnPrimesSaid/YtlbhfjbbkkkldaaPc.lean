/- Plain facts: the props of a state and of its pattern; the contracts of the props of patterns. -/
import Derived.Test.YtlbhfjbbkkkldaaJt
import Derived.Test.YtlbhfjbbkkkldaaSo
import Derived.Test.YtlbhfjbbkkkldaaAv
namespace Go.Proofs.Ytlbhfjbbkkkldaa
open Go.RowKit
set_option linter.unusedVariables false

theorem popc_addpow : ∀ (t : Nat) (m k : Int), popc t (m + 2 ^ t * k) = popc t m := by
  intro t
  induction t with
  | zero => intro m k; rfl
  | succ t ih =>
    intro m k
    have e : m + 2 ^ (t + 1) * k = m + 2 * (2 ^ t * k) := by rw [Int.pow_succ, Int.mul_comm (2 ^ t) 2, Int.mul_assoc]
    have h1 : (m + 2 ^ (t + 1) * k) % 2 = m % 2 := by rw [e]; omega
    have h2 : (m + 2 ^ (t + 1) * k) / 2 = m / 2 + 2 ^ t * k := by rw [e]; omega
    rw [popc, popc, h1, h2, ih]
theorem popc_stM (p : List Int) (b : Int) : ∀ t, popc t (stM p b t : Nat) = (cnt p b t : Nat) := by
  intro t
  induction t with
  | zero => rfl
  | succ t ih =>
    have hl := stM_lt p b t
    have hli : ((stM p b t : Nat) : Int) < 2 ^ t := by
      have : ((stM p b t : Nat) : Int) < ((2 ^ t : Nat) : Int) := by omega
      simpa using this
    have h0 : (0 : Int) ≤ (stM p b t : Nat) := by omega
    have hc : cnt p b (t + 1) = cnt p b t + if lf p (b + (t : Int)) < b then 1 else 0 := rfl
    rw [popc_snoc, hc]
    by_cases k : lf p (b + (t : Int)) < b
    · rw [stM_yes k, if_pos k]
      have e : ((stM p b t + 2 ^ t : Nat) : Int) = (stM p b t : Nat) + 2 ^ t * 1 := by simp
      rw [e, popc_addpow, ih]
      have hd : ((stM p b t : Nat) + 2 ^ t * 1 : Int) / 2 ^ t = 1 := by
        rw [Int.add_mul_ediv_left _ _ (Int.ne_of_gt (Int.pow_pos (by decide))), Int.ediv_eq_zero_of_lt h0 hli]; rfl
      rw [hd]; omega
    · rw [stM_not k, if_neg k, ih, Int.ediv_eq_zero_of_lt h0 hli]; omega
theorem sumL_sumN : ∀ (xs : List Int), (∀ x ∈ xs, 0 ≤ x) → sumL xs = (sumN (pN xs) xs.length : Nat) := by
  intro xs
  induction xs with
  | nil => intro _; rfl
  | cons x xs ih =>
    intro h
    have h1 := h x List.mem_cons_self
    have h2 := ih fun y hy => h y (List.mem_cons_of_mem _ hy)
    rw [sumL, h2, List.length_cons, sumN_shift]
    have e1 : pN (x :: xs) 0 = x.toNat := rfl
    have e2 : (fun i => pN (x :: xs) (i + 1)) = pN xs := rfl
    rw [e1, e2]; omega
/-- The props of a pattern. -/
def prN (p : List Int) : Int := sumL p / (p.length : Int)
theorem pN_hi {p : List Int} (h : okP p = true) (i : Nat) : (pN p i : Int) ≤ hiT p := by
  rw [pN_int h, List.getD_eq_getElem?_getD]
  cases hx : p[i]? with
  | none => simpa using (hiT_bd (okP_th h)).1
  | some x => exact hiT_mem (List.mem_of_getElem? hx)
theorem sumL_cnt {p : List Int} (h : okP p = true) {H : Nat} (hH : hiT p ≤ H) : sumL p = (p.length : Int) * (cnt p 0 H : Nat) := by
  have h1 := sum_props h (H := H) (fun i => by have := pN_hi h i; omega)
  rw [sumL_sumN p (fun x hx => ((thOk_iff (okP_th h)).1 x hx).1), h1, Int.natCast_mul]
theorem prN_cnt {p : List Int} (h : okP p = true) {H : Nat} (hH : hiT p ≤ H) : prN p = (cnt p 0 H : Nat) := by
  have hl := (thOk_iff (okP_th h)).2.1
  rw [prN, sumL_cnt h hH, Int.mul_ediv_cancel_left _ (by omega)]
theorem prN_mul {p : List Int} (h : okP p = true) : prN p * (p.length : Int) = sumL p := by
  have hb := (hiT_bd (okP_th h)).2
  rw [prN_cnt h (H := 15) hb, sumL_cnt h (H := 15) hb, Int.mul_comm]
theorem cnt_le (p : List Int) (b : Int) : ∀ H, cnt p b H ≤ H := by
  intro H
  induction H with
  | zero => exact Nat.le_refl _
  | succ H ih =>
    have hc : cnt p b (H + 1) = cnt p b H + if lf p (b + (H : Int)) < b then 1 else 0 := rfl
    rw [hc]; split <;> omega
theorem prN_bd {p : List Int} (h : okP p = true) : 0 ≤ prN p ∧ prN p ≤ hiT p := by
  have hb := hiT_bd (okP_th h)
  obtain ⟨H, hH⟩ := Int.eq_ofNat_of_zero_le hb.1
  rw [prN_cnt h (H := H) (by omega), hH]
  have := cnt_le p 0 H
  omega
theorem propsOf_any (A : Option Addr) (n c : Nat) (p : List Int) (w : World) (hp : okP p = true) (hr : Rd w w.heap.size 1 A n (ints p)) :
    Calls Try.prog 106 #[.slice A n c] w fun e w' => e = .returned (.int .i64 (prN p)) ∧ w = w' := by
  have hlen := hr.len
  obtain ⟨q1, q2, q3⟩ := thOk_iff (okP_th hp)
  have hst : Hid ((0 : Int) + sumL (p.drop 0) = sumL p) := by show _ = _; simp
  have Q := hid q1
  have hn1 : 1 ≤ n := by omega
  have hn2 : n ≤ 12 := by omega
  have hs : Hid (prN p = sumL p / (n : Int)) := by show _ = _; rw [prN, hlen]
  generalize sumL p = R at *
  clear q1 q2 q3 hp
  go_enter Try.func106, Try.ntmps106
  go_wp2
  go_loop [3, 8] (fun v i => ∃ (k : Nat) (m : Int), k ≤ n ∧ i = .int .i64 k ∧ v = .int .i64 m ∧ 0 ≤ m ∧ m ≤ 15 * (k : Int) ∧ Hid (m + sumL (p.drop k) = R)) (fun _ i => n - (intOf i).toNat)
  case atStart => exact ⟨0, 0, Nat.zero_le _, rfl, rfl, by omega, by omega, hst⟩
  case round =>
    obtain ⟨k, m, hk, rfl, rfl, m0, m1, he⟩ := hrel
    by_cases hlt : k < n
    · obtain ⟨b, off, x, rfl, hb, hx, hd, hc⟩ := hr.at_ hlt
      obtain ⟨x0, x1⟩ := Q.out x (List.mem_of_getElem? hx)
      have HZ : Hid ((m + x) + sumL (p.drop (k + 1)) = R) := by show _ = _; rw [← he.out, hd, sumL]; omega
      clear he hst hx hd hb hr hlen
      go_wp2
      go_round
      case rel => exact ⟨k + 1, m + x, by omega, by go_num, rfl, by omega, by omega, HZ⟩
      case measure => simp [intOf]; omega
    · have : k = n := by omega
      subst this
      have HZ : Hid (R = m) := by
        show _ = _
        rw [← he.out, List.drop_eq_nil_of_le (by omega), sumL]; omega
      have hk1 : 1 ≤ (k : Int) := by omega
      clear he hst hr hlen
      go_wp2_with (go_at_call 152; refine (period_any _ _ _ _ (by omega)).mono ?_; rintro e w' ⟨rfl, rfl⟩)
      go_ret
      exact ⟨ret_int (by rw [hs.out, HZ.out]), rfl⟩
theorem l02Props_any (A : Option Addr) (n c : Nat) (p : List Int) (w : World) (hp : okP p = true) (hr : Rd w w.heap.size 1 A n (ints p)) :
    Calls Try.prog 127 #[.slice A n c] w fun e w' => e = .returned (.int .i64 (prN p)) ∧ w = w' := by
  have hlen := hr.len
  obtain ⟨q1, q2, q3⟩ := thOk_iff (okP_th hp)
  have hS := hid (l02Sum_any A n c p w (okP_th hp) hr)
  have hn1 : 1 ≤ (n : Int) := by omega
  have hn2 : n ≤ 12 := by omega
  have hs : Hid (prN p = sumL p / (n : Int)) := by show _ = _; rw [prN, hlen]
  obtain ⟨s0, s1⟩ := sumL_bd p q1
  rw [hlen] at s1
  generalize sumL p = R at *
  clear q1 q2 q3 hp hr hlen
  go_enter Try.func127, Try.ntmps127
  go_wp2_with (go_at_call 160; refine (hS.out).mono ?_; rintro e w' ⟨rfl, rfl⟩)
  go_ret
  exact ⟨ret_int hs.out.symm, rfl⟩
end Go.Proofs.Ytlbhfjbbkkkldaa
