/- Contracts of the functions of a pattern and a beat. -/
import Derived.Test.YtlbhfjbbkkkldaaMo
namespace Go.Proofs.Ytlbhfjbbkkkldaa
open Go.RowKit
set_option linter.unusedVariables false

theorem l02At_any (A : Option Addr) (n c : Nat) (p : List Int) (b : Int) (w : World) (hn : n ≤ 1099511627776) (hn1 : 1 ≤ n) (hr : Rd w w.heap.size 1 A n (ints p)) :
    Calls Try.prog 209 #[.slice A n c, .int .i64 b] w fun e w' => e = .returned (.int .i64 (atB p b)) ∧ w = w' := by
  obtain ⟨k, bk, off, hk, hkn, rfl, hc⟩ := hr.atB_ b hn1
  have hm := l02Mod_any b n w (by omega) (by omega)
  rw [hk] at hm
  have hm := hid hm
  clear hk hr
  go_enter Try.func209, Try.ntmps209
  go_wp2_with (first | (go_at_call 166; refine (hm.out).mono ?_; rintro e w' ⟨rfl, rfl⟩))
  go_ret
  exact ⟨rfl, rfl⟩
theorem lf_yes {p : List Int} {b : Int} {i : Nat} {R : Option Nat} (hR : idx p b = R) (h : srch (Ld p) (b % (p.length : Int)) (p.length - i) i = R) (hi : i < p.length) (hL : Ld p i = b % (p.length : Int)) : lf p b = b - p.getD i 0 := by
  obtain ⟨f, hf⟩ : ∃ f, p.length - i = f + 1 := ⟨p.length - i - 1, by omega⟩
  rw [hf, srch_yes hL] at h
  exact lf_some (hR.trans h.symm)
theorem landsFrom_any (A : Option Addr) (n c : Nat) (p : List Int) (b : Int) (w : World) (b1 : -1000000000 ≤ b) (b2 : b ≤ 1000000000) (hp : okP p = true) (hr : Rd w w.heap.size 1 A n (ints p)) :
    Calls Try.prog 210 #[.slice A n c, .int .i64 b] w fun e w' => e = .returned (.int .i64 (lf p b)) ∧ Below w.heap.size w w' := by
  have hlen := hr.len
  have hth := thOk_iff (okP_th hp)
  have hn1 : 1 ≤ n := by omega
  have hn2 : n ≤ 12 := by omega
  obtain ⟨R, hR⟩ : ∃ R, idx p b = R := ⟨_, rfl⟩
  have hst : Hid (srch (Ld p) (b % (p.length : Int)) (n - 0) 0 = R) := by show _ = _; rw [← hR, idx, hlen]; rfl
  have hRn : Hid (idx p b = R) := hR
  have hRs : Hid (∃ i, R = some i) := by obtain ⟨i, h1, _⟩ := idx_some hp b; exact ⟨i, hR.symm.trans h1⟩
  have hm := hid (fun (w1 : World) => modulo_any b n w1 (by omega) (by omega))
  have hld := hid (landings_any A n c p w (okP_th hp) hr)
  have hlen' := hid hlen
  have hbd := hid (fun (i : Nat) => getD_bd (okP_th hp) i)
  have hrr := hid hr
  clear hR hr hlen hth hp
  go_enter Try.func210, Try.ntmps210
  go_wp2_with (go_at_call 168; refine hld.out.mono ?_; rintro e w1 ⟨v1, rfl, ho1, hb1⟩; obtain ⟨A1, c1, rfl⟩ := own_form ho1)
  go_loopw [10] (fun i wr => ∃ k : Nat, k ≤ n ∧ i = .int .i64 k ∧ Hid (srch (Ld p) (b % (p.length : Int)) (n - k) k = R) ∧ Below w.heap.size w wr ∧ wr.ownsRow w.heap.size 2 1 (.slice A1 n c1) n (ints (lnd p))) (fun i _ => n - (intOf i).toNat)
  case atStart => exact ⟨0, Nat.zero_le _, rfl, hst, hb1, ho1⟩
  case round =>
    obtain ⟨k, hk, rfl, he, hb0, ho⟩ := hrel
    clear hst hb1 ho1
    by_cases hlt : k < n
    · obtain ⟨bk, off, y, rfl, _, hy, _, hcy⟩ := (Rd.of_own ho).at_ hlt
      obtain ⟨bk', off', x, rfl, _, hx, _, hcx⟩ := (hrr.out.below hb0 (Nat.le_refl _)).at_ hlt
      have hy2 : y = Ld p k := by have := lnd_at p k (by rw [hlen'.out]; exact hlt); rw [this] at hy; exact (Option.some.inj hy).symm
      have hx2 : p.getD k 0 = x := by rw [List.getD_eq_getElem?_getD, hx]; rfl
      obtain ⟨x0, x1⟩ := hbd.out k
      rw [hx2] at x0 x1
      by_cases hyb : y = b % (n : Int)
      · have hq : (y == b % (n : Int)) = true := by simp [hyb]
        have HZ : Hid (lf p b = b - x) := by
          show _ = _
          have h1 := he.out
          rw [← hlen'.out] at h1
          rw [lf_yes hRn.out h1 (by rw [hlen'.out]; exact hlt) (by rw [← hy2, hyb, hlen'.out]), hx2]
        clear hy hx hy2 hx2 hyb he ho
        go_wp2_with (first | (go_at_call 152; refine (period_any _ _ _ _ (by omega)).mono ?_; rintro e w' ⟨rfl, rfl⟩) | (go_at_call 121; refine (hm.out _).mono ?_; rintro e w' ⟨rfl, rfl⟩))
        go_ret
        exact ⟨ret_int HZ.out.symm, hb0⟩
      · have hq : (y == b % (n : Int)) = false := by simpa using hyb
        have HZ : Hid (srch (Ld p) (b % (p.length : Int)) (n - (k + 1)) (k + 1) = R) := by
          show _ = _
          have hkk : n - k = (n - (k + 1)) + 1 := by omega
          have h1 := he.out
          rw [hkk, srch_not (by rw [← hy2, hlen'.out]; exact hyb)] at h1
          exact h1
        clear hy hx hy2 hx2 hyb he
        go_wp2_with (first | (go_at_call 152; refine (period_any _ _ _ _ (by omega)).mono ?_; rintro e w' ⟨rfl, rfl⟩) | (go_at_call 121; refine (hm.out _).mono ?_; rintro e w' ⟨rfl, rfl⟩))
        go_roundw
        case rel => exact ⟨k + 1, by omega, by go_num, HZ, hb0, ho⟩
        case measure => simp [intOf]; omega
    · exfalso
      have h1 := he.out
      have h0 : n - k = 0 := by omega
      obtain ⟨i, hi⟩ := hRs.out
      rw [h0, hi, srch] at h1
      cases h1
theorem l02From_any (A : Option Addr) (n c : Nat) (p : List Int) (b : Int) (w : World) (b1 : -1000000000 ≤ b) (b2 : b ≤ 1000000000) (hp : okP p = true) (hr : Rd w w.heap.size 1 A n (ints p)) :
    Calls Try.prog 208 #[.slice A n c, .int .i64 b] w fun e w' => e = .returned (.int .i64 (lf p b)) ∧ Below w.heap.size w w' := by
  have hlen := hr.len
  have hth := thOk_iff (okP_th hp)
  have hn1 : 1 ≤ n := by omega
  have hn2 : n ≤ 12 := by omega
  obtain ⟨R, hR⟩ : ∃ R, idx p b = R := ⟨_, rfl⟩
  have hst : Hid (srch (Ld p) (b % (p.length : Int)) (n - 0) 0 = R) := by show _ = _; rw [← hR, idx, hlen]; rfl
  have hRn : Hid (idx p b = R) := hR
  have hRs : Hid (∃ i, R = some i) := by obtain ⟨i, h1, _⟩ := idx_some hp b; exact ⟨i, hR.symm.trans h1⟩
  have hm := hid (fun (w1 : World) => l02Mod_any b n w1 (by omega) (by omega))
  have hlen' := hid hlen
  have hbd := hid (fun (i : Nat) => getD_bd (okP_th hp) i)
  have hrr := hid hr
  clear hR hr hlen hth hp
  go_enter Try.func208, Try.ntmps208
  go_wp2
  go_loopw [6] (fun i wr => ∃ k : Nat, k ≤ n ∧ i = .int .i64 k ∧ Hid (srch (Ld p) (b % (p.length : Int)) (n - k) k = R) ∧ Below w.heap.size w wr) (fun i _ => n - (intOf i).toNat)
  case atStart => exact ⟨0, Nat.zero_le _, rfl, hst, Below.refl _ _⟩
  case round =>
    obtain ⟨k, hk, rfl, he, hb0⟩ := hrel
    clear hst
    by_cases hlt : k < n
    · obtain ⟨bk', off', x, rfl, _, hx, _, hcx⟩ := (hrr.out.below hb0 (Nat.le_refl _)).at_ hlt
      have hx2 : p.getD k 0 = x := by rw [List.getD_eq_getElem?_getD, hx]; rfl
      obtain ⟨x0, x1⟩ := hbd.out k
      rw [hx2] at x0 x1
      have hy2 : ((k : Int) + x) % (n : Int) = Ld p k := by rw [Ld, hlen'.out, hx2]
      by_cases hyb : ((k : Int) + x) % (n : Int) = b % (n : Int)
      · have hq : (((k : Int) + x) % (n : Int) == b % (n : Int)) = true := by simp [hyb]
        have HZ : Hid (lf p b = b - x) := by
          show _ = _
          have h1 := he.out
          rw [← hlen'.out] at h1
          rw [lf_yes hRn.out h1 (by rw [hlen'.out]; exact hlt) (by rw [← hy2, hyb, hlen'.out]), hx2]
        clear hx hy2 hx2 hyb he
        go_wp2
        go_quiet ((go_at_call 166; exact quiet_same (hm.out _)))
        go_wp2
        go_ret
        exact ⟨ret_int HZ.out.symm, (by repeat' (first | exact Below.refl _ _ | (with_reducible assumption) | (with_reducible refine Below.alloc ?_ ?_ _) | (with_reducible refine Below.setCell ?_ ?_ _) | (with_reducible refine Below.drew ?_) | (with_reducible refine below_drewN ?_ _) | (refine Below.trans ?_ (Below.mono (by assumption) ?_)) | (with_reducible exact Nat.le_refl _) | (with_reducible assumption) | (exact Below.size (by assumption)) | omega | go_size | (simp at *; omega)))⟩
      · have hq : (((k : Int) + x) % (n : Int) == b % (n : Int)) = false := by simpa using hyb
        have HZ : Hid (srch (Ld p) (b % (p.length : Int)) (n - (k + 1)) (k + 1) = R) := by
          show _ = _
          have hkk : n - k = (n - (k + 1)) + 1 := by omega
          have h1 := he.out
          rw [hkk, srch_not (by rw [← hy2, hlen'.out]; exact hyb)] at h1
          exact h1
        clear hx hy2 hx2 hyb he
        go_wp2
        go_quiet ((go_at_call 166; exact quiet_same (hm.out _)))
        go_wp2
        go_roundw
        case rel => exact ⟨k + 1, by omega, by go_num, HZ, (by repeat' (first | exact Below.refl _ _ | (with_reducible assumption) | (with_reducible refine Below.alloc ?_ ?_ _) | (with_reducible refine Below.setCell ?_ ?_ _) | (with_reducible refine Below.drew ?_) | (with_reducible refine below_drewN ?_ _) | (refine Below.trans ?_ (Below.mono (by assumption) ?_)) | (with_reducible exact Nat.le_refl _) | (with_reducible assumption) | (exact Below.size (by assumption)) | omega | go_size | (simp at *; omega)))⟩
        case measure => simp [intOf]; omega
    · exfalso
      have h1 := he.out
      have h0 : n - k = 0 := by omega
      obtain ⟨i, hi⟩ := hRs.out
      rw [h0, hi, srch] at h1
      cases h1
end Go.Proofs.Ytlbhfjbbkkkldaa
