/- Contracts of HandAt and ReadHands, and the walks of their laws. -/
import Derived.Test.YtnngkaocblkgkaaW
namespace Go.Proofs.Ytnngkaocblkgkaa
open Go.RowKit
set_option linter.unusedVariables false

theorem mod_eq (a n : Int) (hn : 1 ≤ n) : (a.tmod n + n) % n = a % n := by
  have h := Int.mul_tdiv_add_tmod a n
  have e : a.tmod n + n = a + n * (1 - a.tdiv n) := by rw [Int.mul_sub]; omega
  rw [e, Int.add_mul_emod_self_left]
theorem tmod_lo (a n : Int) (hn : 1 ≤ n) : -n < a.tmod n ∧ a.tmod n < n := by
  constructor
  · exact Int.lt_tmod_of_pos a (by omega)
  · exact Int.tmod_lt_of_pos a (by omega)
theorem modulo_any (a n : Int) (w : World) (h1 : 1 ≤ n) (h2 : n ≤ 1099511627776) :
    Calls Try.prog 91 #[.int .i64 a, .int .i64 n] w fun e w' => e = .returned (.int .i64 (a % n)) ∧ w = w' := by
  have h : Hid (a.tmod n % n = a % n) := by show _ = _; rw [← mod_eq a n h1, Int.add_emod_right]
  obtain ⟨t1, t2⟩ := tmod_lo a n h1
  by_cases ha : 0 ≤ a
  · have h3 : Hid ((a % n + n) % n = a % n) := by show _ = _; rw [Int.add_emod_right]; exact Int.emod_emod_of_dvd a (Int.dvd_refl n)
    have h4 : 0 ≤ a % n := Int.emod_nonneg _ (by omega)
    have h5 : a % n < n := Int.emod_lt_of_pos _ (by omega)
    go_enter Try.func91, Try.ntmps91
    go_wp2
    go_ret
    exact ⟨ret_int h3.out, rfl⟩
  · go_enter Try.func91, Try.ntmps91
    go_wp2
    go_ret
    exact ⟨ret_int h.out, rfl⟩
theorem l02Mod_any (a n : Int) (w : World) (h1 : 1 ≤ n) (h2 : n ≤ 1099511627776) :
    Calls Try.prog 90 #[.int .i64 a, .int .i64 n] w fun e w' => e = .returned (.int .i64 (a % n)) ∧ w = w' := by
  have h : Hid (a.tmod n % n = a % n) := by show _ = _; rw [← mod_eq a n h1, Int.add_emod_right]
  obtain ⟨t1, t2⟩ := tmod_lo a n h1
  by_cases ha : 0 ≤ a
  · have h3 : Hid ((a % n + n) % n = a % n) := by show _ = _; rw [Int.add_emod_right]; exact Int.emod_emod_of_dvd a (Int.dvd_refl n)
    have h4 : 0 ≤ a % n := Int.emod_nonneg _ (by omega)
    have h5 : a % n < n := Int.emod_lt_of_pos _ (by omega)
    go_enter Try.func90, Try.ntmps90
    go_wp2
    go_ret
    exact ⟨ret_int h3.out, rfl⟩
  · go_enter Try.func90, Try.ntmps90
    go_wp2
    go_ret
    exact ⟨ret_int h.out, rfl⟩
theorem isBeat_any (n : Int) (w : World) :
    Calls Try.prog 71 #[.int .i64 n] w fun e w' => e = .returned (.bool (betweenB n (-1000000) 1000000)) ∧ w = w' := by
  go_enter Try.func71, Try.ntmps71
  go_wp2_with (go_at_call 57; refine (between_any _ _ _ _).mono ?_; rintro e w' ⟨rfl, rfl⟩)
  go_ret
  exact ⟨rfl, rfl⟩
/-- The number of a list at a beat. -/
def atB (p : List Int) (b : Int) : Int := p.getD (b % (p.length : Int)).toNat 0
theorem Rd.atB_ {w : World} {B n : Nat} {A : Option Addr} {p : List Int} (h : Rd w B 1 A n (ints p)) (b : Int) (hn : 1 ≤ n) :
    ∃ (k : Nat) (bk off : Nat), b % (n : Int) = (k : Int) ∧ k < n ∧ A = some ⟨bk, off, none⟩ ∧ w.cell? ⟨bk, off + k, none⟩ = some (.int .i64 (atB p b)) := by
  have h0 : 0 ≤ b % (n : Int) := Int.emod_nonneg _ (by omega)
  have h1 : b % (n : Int) < n := Int.emod_lt_of_pos _ (by omega)
  obtain ⟨k, hk⟩ := Int.eq_ofNat_of_zero_le h0
  obtain ⟨bk, off, x, hA, _, hx, _, hc⟩ := h.at_ (show k < n by omega)
  refine ⟨k, bk, off, hk, by omega, hA, ?_⟩
  rw [hc, atB, h.len, hk, Int.toNat_natCast, List.getD_eq_getElem?_getD, hx]; rfl
theorem handAt_any (A : Option Addr) (n c : Nat) (p : List Int) (b : Int) (w : World) (hn : n ≤ 1099511627776) (hn1 : 1 ≤ n) (hr : Rd w w.heap.size 1 A n (ints p)) :
    Calls Try.prog 72 #[.slice A n c, .int .i64 b] w fun e w' => e = .returned (.int .i64 (atB p b)) ∧ w = w' := by
  obtain ⟨k, bk, off, hk, hkn, rfl, hc⟩ := hr.atB_ b hn1
  have hm := modulo_any b n w (by omega) (by omega)
  rw [hk] at hm
  have hm := hid hm
  clear hk hr
  go_enter Try.func72, Try.ntmps72
  go_wp2_with (go_at_call 91; refine (hm.out).mono ?_; rintro e w' ⟨rfl, rfl⟩)
  go_ret
  exact ⟨rfl, rfl⟩
theorem l14At_any (A : Option Addr) (n c : Nat) (p : List Int) (b : Int) (w : World) (hn : n ≤ 1099511627776) (hn1 : 1 ≤ n) (hr : Rd w w.heap.size 1 A n (ints p)) :
    Calls Try.prog 70 #[.slice A n c, .int .i64 b] w fun e w' => e = .returned (.int .i64 (atB p b)) ∧ w = w' := by
  obtain ⟨k, bk, off, hk, hkn, rfl, hc⟩ := hr.atB_ b hn1
  have hm := l02Mod_any b n w (by omega) (by omega)
  rw [hk] at hm
  have hm := hid hm
  clear hk hr
  go_enter Try.func70, Try.ntmps70
  go_wp2_with (go_at_call 90; refine (hm.out).mono ?_; rintro e w' ⟨rfl, rfl⟩)
  go_ret
  exact ⟨rfl, rfl⟩
def rHandAt (p : List Int) (b : Int) : Int × Int := if hdOk p then (if betweenB b (-1000000) 1000000 then (atB p b, 0) else (0, 2)) else (0, 1)
theorem hdOk_len {p : List Int} (h : hdOk p = true) : 1 ≤ p.length ∧ p.length ≤ 12 := by
  simp only [hdOk, Bool.and_eq_true, betweenB_iff] at h; omega
theorem HandAt_any (A : Option Addr) (n c : Nat) (p : List Int) (b : Int) (w : World) (hn : n ≤ 1099511627776) (hr : Rd w w.heap.size 1 A n (ints p)) :
    Calls Try.prog 28 #[.slice A n c, .int .i64 b] w fun e w' => e = .returned (.tuple #[.int .i64 (rHandAt p b).1, .int .i64 (rHandAt p b).2]) ∧ Below w.heap.size w w' := by
  have hV := ValidHands_any A n c p w hn hr
  by_cases k : hdOk p = true
  · rw [k] at hV
    have hV := hid hV
    have hl := hdOk_len k
    have hlen := hr.len
    have hn1 : 1 ≤ n := by omega
    by_cases k2 : betweenB b (-1000000) 1000000 = true
    · have hs : Hid (rHandAt p b = (atB p b, 0)) := by show _ = _; simp [rHandAt, k, k2]
      have hA := hid (fun (w1 : World) (h : Rd w1 w1.heap.size 1 A n (ints p)) => handAt_any A n c p b w1 hn hn1 h)
      have hR := hid hr
      clear hl hlen k hr
      go_enter Try.func28, Try.ntmps28
      go_wp2_with (first | (go_at_call 20; refine (hV.out).mono ?_; rintro e w1 ⟨rfl, hb1⟩; first | (have hk1 := bchain (by assumption) hb1; obtain ⟨hc1, hf1, hz1, hl1⟩ := bcell hk1) | (obtain ⟨hc1, hf1, hz1, hl1⟩ := bcell hb1)) | (go_at_call 71; refine (isBeat_any _ _).mono ?_; rintro e w' ⟨rfl, rfl⟩) | (go_at_call 72; refine (hA.out _ ((hR.out.below hb1 (Nat.le_refl _)).more hb1.size)).mono ?_; rintro e w' ⟨rfl, rfl⟩))
      go_ret2
      exact ⟨by rw [hs.out]; rfl, (by repeat' (first | exact Below.refl _ _ | (with_reducible assumption) | (with_reducible refine Below.alloc ?_ ?_ _) | (with_reducible refine Below.setCell ?_ ?_ _) | (with_reducible refine Below.drew ?_) | (with_reducible refine below_drewN ?_ _) | (refine Below.trans ?_ (Below.mono (by assumption) ?_)) | (with_reducible exact Nat.le_refl _) | (with_reducible assumption) | (exact Below.size (by assumption)) | omega | go_size | (simp at *; omega)))⟩
    · have k2 : betweenB b (-1000000) 1000000 = false := by simpa using k2
      have hs : Hid (rHandAt p b = (0, 2)) := by show _ = _; simp [rHandAt, k, k2]
      clear hl hlen k hr
      go_enter Try.func28, Try.ntmps28
      go_wp2_with (first | (go_at_call 20; refine (hV.out).mono ?_; rintro e w1 ⟨rfl, hb1⟩; first | (have hk1 := bchain (by assumption) hb1; obtain ⟨hc1, hf1, hz1, hl1⟩ := bcell hk1) | (obtain ⟨hc1, hf1, hz1, hl1⟩ := bcell hb1)) | (go_at_call 71; refine (isBeat_any _ _).mono ?_; rintro e w' ⟨rfl, rfl⟩))
      go_ret2
      exact ⟨by rw [hs.out]; rfl, (by repeat' (first | exact Below.refl _ _ | (with_reducible assumption) | (with_reducible refine Below.alloc ?_ ?_ _) | (with_reducible refine Below.setCell ?_ ?_ _) | (with_reducible refine Below.drew ?_) | (with_reducible refine below_drewN ?_ _) | (refine Below.trans ?_ (Below.mono (by assumption) ?_)) | (with_reducible exact Nat.le_refl _) | (with_reducible assumption) | (exact Below.size (by assumption)) | omega | go_size | (simp at *; omega)))⟩
  · have k : hdOk p = false := by simpa using k
    rw [k] at hV
    have hV := hid hV
    have hs : Hid (rHandAt p b = (0, 1)) := by show _ = _; simp [rHandAt, k]
    clear k hr
    go_enter Try.func28, Try.ntmps28
    go_wp2_with (first | (go_at_call 20; refine (hV.out).mono ?_; rintro e w1 ⟨rfl, hb1⟩; first | (have hk1 := bchain (by assumption) hb1; obtain ⟨hc1, hf1, hz1, hl1⟩ := bcell hk1) | (obtain ⟨hc1, hf1, hz1, hl1⟩ := bcell hb1)))
    go_ret2
    exact ⟨by rw [hs.out]; rfl, (by repeat' (first | exact Below.refl _ _ | (with_reducible assumption) | (with_reducible refine Below.alloc ?_ ?_ _) | (with_reducible refine Below.setCell ?_ ?_ _) | (with_reducible refine Below.drew ?_) | (with_reducible refine below_drewN ?_ _) | (refine Below.trans ?_ (Below.mono (by assumption) ?_)) | (with_reducible exact Nat.le_refl _) | (with_reducible assumption) | (exact Below.size (by assumption)) | omega | go_size | (simp at *; omega)))⟩
theorem specHandAt_any (A : Option Addr) (n c : Nat) (p : List Int) (b : Int) (w : World) (hn : n ≤ 1099511627776) (hr : Rd w w.heap.size 1 A n (ints p)) :
    Calls Try.prog 27 #[.slice A n c, .int .i64 b] w fun e w' => e = .returned (.tuple #[.int .i64 (rHandAt p b).1, .int .i64 (rHandAt p b).2]) ∧ Below w.heap.size w w' := by
  have hV := l14Ok_any A n c p w hn hr
  by_cases k : hdOk p = true
  · rw [k] at hV
    have hV := hid hV
    have hl := hdOk_len k
    have hlen := hr.len
    have hn1 : 1 ≤ n := by omega
    by_cases k2 : betweenB b (-1000000) 1000000 = true
    · have hs : Hid (rHandAt p b = (atB p b, 0)) := by show _ = _; simp [rHandAt, k, k2]
      have hA := hid (fun (w1 : World) (h : Rd w1 w1.heap.size 1 A n (ints p)) => l14At_any A n c p b w1 hn hn1 h)
      have hR := hid hr
      clear hl hlen k hr
      go_enter Try.func27, Try.ntmps27
      go_wp2_with (first | (go_at_call 58; refine (hV.out).mono ?_; rintro e w' ⟨rfl, rfl⟩) | (go_at_call 54; refine (l00In_any _ _ _ _).mono ?_; rintro e w' ⟨rfl, rfl⟩) | (go_at_call 70; refine (hA.out _ hR.out).mono ?_; rintro e w' ⟨rfl, rfl⟩))
      go_ret2
      exact ⟨by rw [hs.out]; rfl, (by repeat' (first | exact Below.refl _ _ | (with_reducible assumption) | (with_reducible refine Below.alloc ?_ ?_ _) | (with_reducible refine Below.setCell ?_ ?_ _) | (with_reducible refine Below.drew ?_) | (with_reducible refine below_drewN ?_ _) | (refine Below.trans ?_ (Below.mono (by assumption) ?_)) | (with_reducible exact Nat.le_refl _) | (with_reducible assumption) | (exact Below.size (by assumption)) | omega | go_size | (simp at *; omega)))⟩
    · have k2 : betweenB b (-1000000) 1000000 = false := by simpa using k2
      have hs : Hid (rHandAt p b = (0, 2)) := by show _ = _; simp [rHandAt, k, k2]
      clear hl hlen k hr
      go_enter Try.func27, Try.ntmps27
      go_wp2_with (first | (go_at_call 58; refine (hV.out).mono ?_; rintro e w' ⟨rfl, rfl⟩) | (go_at_call 54; refine (l00In_any _ _ _ _).mono ?_; rintro e w' ⟨rfl, rfl⟩))
      go_ret2
      exact ⟨by rw [hs.out]; rfl, (by repeat' (first | exact Below.refl _ _ | (with_reducible assumption) | (with_reducible refine Below.alloc ?_ ?_ _) | (with_reducible refine Below.setCell ?_ ?_ _) | (with_reducible refine Below.drew ?_) | (with_reducible refine below_drewN ?_ _) | (refine Below.trans ?_ (Below.mono (by assumption) ?_)) | (with_reducible exact Nat.le_refl _) | (with_reducible assumption) | (exact Below.size (by assumption)) | omega | go_size | (simp at *; omega)))⟩
  · have k : hdOk p = false := by simpa using k
    rw [k] at hV
    have hV := hid hV
    have hs : Hid (rHandAt p b = (0, 1)) := by show _ = _; simp [rHandAt, k]
    clear k hr
    go_enter Try.func27, Try.ntmps27
    go_wp2_with (first | (go_at_call 58; refine (hV.out).mono ?_; rintro e w' ⟨rfl, rfl⟩))
    go_ret2
    exact ⟨by rw [hs.out]; rfl, (by repeat' (first | exact Below.refl _ _ | (with_reducible assumption) | (with_reducible refine Below.alloc ?_ ?_ _) | (with_reducible refine Below.setCell ?_ ?_ _) | (with_reducible refine Below.drew ?_) | (with_reducible refine below_drewN ?_ _) | (refine Below.trans ?_ (Below.mono (by assumption) ?_)) | (with_reducible exact Nat.le_refl _) | (with_reducible assumption) | (exact Below.size (by assumption)) | omega | go_size | (simp at *; omega)))⟩
theorem fnExactHandAt_walk (w : World) (aOrderA : Option Addr) (aOrderN aOrderC : Nat) (aOrder : List Int) (aOrderK : Came .i64 w aOrderA aOrderN aOrderC aOrder) (aBeat : Int) (_ : BD aBeat) :
    Calls Try.prog 7 #[.slice aOrderA aOrderN aOrderC, .int .i64 aBeat] w fun e w' => e = .returned (.bool true) ∧ Below w.heap.size w w' := by
  by_cases hlong : 1048576 < aOrderN
  · have hm := aOrderK.2.1
    go_enter Try.func7, Try.ntmps7
    go_wp2
    go_ret
    exact ⟨rfl, (by repeat' (first | exact Below.refl _ _ | (with_reducible assumption) | (with_reducible refine Below.alloc ?_ ?_ _) | (with_reducible refine Below.setCell ?_ ?_ _) | (with_reducible refine Below.drew ?_) | (with_reducible refine below_drewN ?_ _) | (refine Below.trans ?_ (Below.mono (by assumption) ?_)) | (with_reducible exact Nat.le_refl _) | (with_reducible assumption) | (exact Below.size (by assumption)) | omega | go_size | (simp at *; omega)))⟩
  have KaOrder := Rd.of_came aOrderK
  have KLaOrder := KaOrder.len
  have B0aOrder := hid aOrderK
  have hS := hid (fun (AaOrder : Option Addr) (caOrder : Nat) (w1 : World) (kaOrder : Rd w1 w1.heap.size 1 AaOrder aOrderN (ints aOrder)) => specHandAt_any AaOrder aOrderN caOrder aOrder aBeat w1 (by omega) kaOrder)
  have hI := hid (fun (AaOrder : Option Addr) (caOrder : Nat) (w1 : World) (kaOrder : Rd w1 w1.heap.size 1 AaOrder aOrderN (ints aOrder)) => HandAt_any AaOrder aOrderN caOrder aOrder aBeat w1 (by omega) kaOrder)
  generalize rHandAt aOrder aBeat = r at *
  obtain ⟨r0, r1⟩ := r
  have hB := Below.refl w.heap.size w
  go_enter Try.func7, Try.ntmps7
  go_wp2_with (go_at_call 19; refine (toInt64S_any _ _ _ _ _ (by omega) ((KaOrder.below hB (Nat.le_refl _)).more hB.size)).mono ?_; rintro e w1 ⟨v1, rfl, ho1, hb1⟩; obtain ⟨A1, c1, rfl⟩ := own_form ho1; have l1 := ho1.lt; have s1 := hb1.size; replace hB := bchain hB hb1)
  go_wp2_with (go_at_call 27; refine (hS.out _ _ _ (Rd.of_own ho1)).mono ?_; rintro e w2 ⟨rfl, hb2⟩; have s2 := hb2.size; replace hB := bchain hB hb2; replace ho1 := own_below ho1 hb2)
  go_wp2_with (go_at_call 19; refine (toInt64S_any _ _ _ _ _ (by omega) ((KaOrder.below hB (Nat.le_refl _)).more hB.size)).mono ?_; rintro e w3 ⟨v3, rfl, ho3, hb3⟩; obtain ⟨A3, c3, rfl⟩ := own_form ho3; have l3 := ho3.lt; have s3 := hb3.size; replace hB := bchain hB hb3; replace ho1 := own_below ho1 hb3)
  go_wp2_with (go_at_call 28; refine (hI.out _ _ _ (Rd.of_own ho3)).mono ?_; rintro e w4 ⟨rfl, hb4⟩; have s4 := hb4.size; replace hB := bchain hB hb4; replace ho1 := own_below ho1 hb4; replace ho3 := own_below ho3 hb4)
  go_wp2_with (go_at_call 19; refine (toInt64S_any _ _ _ _ _ (by omega) ((KaOrder.below hB (Nat.le_refl _)).more hB.size)).mono ?_; rintro e w5 ⟨v5, rfl, ho5, hb5⟩; obtain ⟨A5, c5, rfl⟩ := own_form ho5; have l5 := ho5.lt; have s5 := hb5.size; replace hB := bchain hB hb5; replace ho1 := own_below ho1 hb5; replace ho3 := own_below ho3 hb5)
  go_wp2_with (go_at_call 21; refine (eqInt64S_same _ _ _ _ _ _ _ (by omega) (Rd.of_own ho3) (Rd.of_own ho5)).mono ?_; rintro e w6 ⟨rfl, hb6⟩; have s6 := hb6.size; replace hB := bchain hB hb6; replace ho1 := own_below ho1 hb6; replace ho3 := own_below ho3 hb6; replace ho5 := own_below ho5 hb6)
  go_ret
  exact ⟨rfl, (by repeat' (first | exact Below.refl _ _ | (with_reducible assumption) | (with_reducible refine Below.alloc ?_ ?_ _) | (with_reducible refine Below.setCell ?_ ?_ _) | (with_reducible refine Below.drew ?_) | (with_reducible refine below_drewN ?_ _) | (refine Below.trans ?_ (Below.mono (by assumption) ?_)) | (with_reducible exact Nat.le_refl _) | (with_reducible assumption) | (exact Below.size (by assumption)) | omega | go_size | (simp at *; omega)))⟩
end Go.Proofs.Ytnngkaocblkgkaa
