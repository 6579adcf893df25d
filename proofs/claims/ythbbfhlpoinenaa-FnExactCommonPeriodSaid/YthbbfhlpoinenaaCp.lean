/- Contracts of CommonPeriod, and the walk of its law. -/
import Derived.Test.YthbbfhlpoinenaaW
import Derived.Test.YthbbfhlpoinenaaGc
import Derived.Test.YthbbfhlpoinenaaMo
namespace Go.Proofs.Ythbbfhlpoinenaa
open Go.RowKit
set_option linter.unusedVariables false

/-- What CommonPeriod gives. -/
def rCommonPeriod (p o : List Int) : Int × Int := if okP p && hdOk o then (((Nat.lcm p.length o.length : Nat) : Int), 0) else (0, 1)
theorem okP_len {p : List Int} (h : okP p = true) : 1 ≤ p.length ∧ p.length ≤ 12 := by have := thOk_iff (okP_th h); omega
theorem hdOk_len2 {p : List Int} (h : hdOk p = true) : 1 ≤ p.length ∧ p.length ≤ 12 := by
  simp only [hdOk, Bool.and_eq_true, betweenB_iff] at h; omega
theorem lcm_bd {a b : Nat} (ha : 1 ≤ a) (hb : 1 ≤ b) (ha2 : a ≤ 12) (hb2 : b ≤ 12) : 1 ≤ Nat.lcm a b ∧ Nat.lcm a b ≤ 144 := by
  refine ⟨Nat.lcm_pos (by omega) (by omega), Nat.le_trans (Nat.le_of_dvd (Nat.mul_pos (by omega) (by omega)) (Nat.lcm_dvd_mul a b)) (Nat.mul_le_mul ha2 hb2)⟩
theorem areHanded_any (A : Option Addr) (n c : Nat) (p : List Int) (A2 : Option Addr) (n2 c2 : Nat) (o : List Int) (w : World) (hn : n ≤ 1099511627776) (hr : Rd w w.heap.size 1 A n (ints p)) (hn2 : n2 ≤ 1099511627776) (hr2 : Rd w w.heap.size 1 A2 n2 (ints o)) :
    Calls Try.prog 80 #[.slice A n c, .slice A2 n2 c2] w fun e w' => e = .returned (.bool (okP p && hdOk o)) ∧ Below w.heap.size w w' := by
  have hV := ValidPattern_any A n c p w hn hr
  by_cases k : okP p = true
  · rw [k] at hV
    have hV := hid hV
    have hs : Hid ((okP p && hdOk o) = hdOk o) := by show _ = _; simp [k]
    have HH := hid (fun (w1 : World) (h : Rd w1 w1.heap.size 1 A2 n2 (ints o)) => ValidHands_any A2 n2 c2 o w1 hn2 h)
    have HR2 := hid hr2
    clear k hr hr2
    go_enter Try.func80, Try.ntmps80
    go_wp2_with (first | (go_at_call 65; refine (hV.out).mono ?_; rintro e w1 ⟨rfl, hb1⟩; first | (have hk1 := bchain (by assumption) hb1; obtain ⟨hc1, hf1, hz1, hl1⟩ := bcell hk1) | (obtain ⟨hc1, hf1, hz1, hl1⟩ := bcell hb1)) | (go_at_call 59; refine (HH.out _ ((HR2.out.below hb1 (Nat.le_refl _)).more hb1.size)).mono ?_; rintro e w2 ⟨rfl, hb2⟩))
    go_ret
    exact ⟨ret_bool hs.out.symm, (by repeat' (first | exact Below.refl _ _ | (with_reducible assumption) | (with_reducible refine Below.alloc ?_ ?_ _) | (with_reducible refine Below.setCell ?_ ?_ _) | (with_reducible refine Below.drew ?_) | (with_reducible refine below_drewN ?_ _) | (refine Below.trans ?_ (Below.mono (by assumption) ?_)) | (with_reducible exact Nat.le_refl _) | (with_reducible assumption) | (exact Below.size (by assumption)) | omega | go_size | (simp at *; omega)))⟩
  · have k : okP p = false := by simpa using k
    rw [k] at hV
    have hV := hid hV
    have hs : Hid ((okP p && hdOk o) = false) := by show _ = _; simp [k]
    clear k hr hr2
    go_enter Try.func80, Try.ntmps80
    go_wp2_with (first | (go_at_call 65; refine (hV.out).mono ?_; rintro e w1 ⟨rfl, hb1⟩; first | (have hk1 := bchain (by assumption) hb1; obtain ⟨hc1, hf1, hz1, hl1⟩ := bcell hk1) | (obtain ⟨hc1, hf1, hz1, hl1⟩ := bcell hb1)))
    go_ret
    exact ⟨ret_bool hs.out.symm, (by repeat' (first | exact Below.refl _ _ | (with_reducible assumption) | (with_reducible refine Below.alloc ?_ ?_ _) | (with_reducible refine Below.setCell ?_ ?_ _) | (with_reducible refine Below.drew ?_) | (with_reducible refine below_drewN ?_ _) | (refine Below.trans ?_ (Below.mono (by assumption) ?_)) | (with_reducible exact Nat.le_refl _) | (with_reducible assumption) | (exact Below.size (by assumption)) | omega | go_size | (simp at *; omega)))⟩
def hcode (b : Bool) : Int := if b then 0 else 1
theorem l14Code_any (A : Option Addr) (n c : Nat) (p : List Int) (A2 : Option Addr) (n2 c2 : Nat) (o : List Int) (w : World) (hn : n ≤ 1099511627776) (hr : Rd w w.heap.size 1 A n (ints p)) (hn2 : n2 ≤ 1099511627776) (hr2 : Rd w w.heap.size 1 A2 n2 (ints o)) :
    Calls Try.prog 78 #[.slice A n c, .slice A2 n2 c2] w fun e w' => e = .returned (.int .i64 (hcode (okP p && hdOk o))) ∧ Below w.heap.size w w' := by
  have hV := l02Ok_any A n c p w hn hr
  by_cases k : okP p = true
  · rw [k] at hV
    have hV := hid hV
    have HH := fun (w1 : World) (h : Rd w1 w1.heap.size 1 A2 n2 (ints o)) => l14Ok_any A2 n2 c2 o w1 hn2 h
    have HR2 := hid hr2
    by_cases k2 : hdOk o = true
    · rw [k2] at HH
      have HH := hid HH
      have hs : Hid (hcode (okP p && hdOk o) = 0) := by show _ = _; simp [k, k2, hcode]
      clear k k2 hr hr2
      go_enter Try.func78, Try.ntmps78
      go_wp2_with (first | (go_at_call 62; refine (hV.out).mono ?_; rintro e w1 ⟨rfl, hb1⟩; first | (have hk1 := bchain (by assumption) hb1; obtain ⟨hc1, hf1, hz1, hl1⟩ := bcell hk1) | (obtain ⟨hc1, hf1, hz1, hl1⟩ := bcell hb1)) | (go_at_call 56; refine (HH.out _ ((HR2.out.below hb1 (Nat.le_refl _)).more hb1.size)).mono ?_; rintro e w' ⟨rfl, rfl⟩))
      go_ret
      exact ⟨by rw [hs.out]; rfl, (by repeat' (first | exact Below.refl _ _ | (with_reducible assumption) | (with_reducible refine Below.alloc ?_ ?_ _) | (with_reducible refine Below.setCell ?_ ?_ _) | (with_reducible refine Below.drew ?_) | (with_reducible refine below_drewN ?_ _) | (refine Below.trans ?_ (Below.mono (by assumption) ?_)) | (with_reducible exact Nat.le_refl _) | (with_reducible assumption) | (exact Below.size (by assumption)) | omega | go_size | (simp at *; omega)))⟩
    · have k2 : hdOk o = false := by simpa using k2
      rw [k2] at HH
      have HH := hid HH
      have hs : Hid (hcode (okP p && hdOk o) = 1) := by show _ = _; simp [k, k2, hcode]
      clear k k2 hr hr2
      go_enter Try.func78, Try.ntmps78
      go_wp2_with (first | (go_at_call 62; refine (hV.out).mono ?_; rintro e w1 ⟨rfl, hb1⟩; first | (have hk1 := bchain (by assumption) hb1; obtain ⟨hc1, hf1, hz1, hl1⟩ := bcell hk1) | (obtain ⟨hc1, hf1, hz1, hl1⟩ := bcell hb1)) | (go_at_call 56; refine (HH.out _ ((HR2.out.below hb1 (Nat.le_refl _)).more hb1.size)).mono ?_; rintro e w' ⟨rfl, rfl⟩))
      go_ret
      exact ⟨by rw [hs.out]; rfl, (by repeat' (first | exact Below.refl _ _ | (with_reducible assumption) | (with_reducible refine Below.alloc ?_ ?_ _) | (with_reducible refine Below.setCell ?_ ?_ _) | (with_reducible refine Below.drew ?_) | (with_reducible refine below_drewN ?_ _) | (refine Below.trans ?_ (Below.mono (by assumption) ?_)) | (with_reducible exact Nat.le_refl _) | (with_reducible assumption) | (exact Below.size (by assumption)) | omega | go_size | (simp at *; omega)))⟩
  · have k : okP p = false := by simpa using k
    rw [k] at hV
    have hV := hid hV
    have hs : Hid (hcode (okP p && hdOk o) = 1) := by show _ = _; simp [k, hcode]
    clear k hr hr2
    go_enter Try.func78, Try.ntmps78
    go_wp2_with (first | (go_at_call 62; refine (hV.out).mono ?_; rintro e w1 ⟨rfl, hb1⟩; first | (have hk1 := bchain (by assumption) hb1; obtain ⟨hc1, hf1, hz1, hl1⟩ := bcell hk1) | (obtain ⟨hc1, hf1, hz1, hl1⟩ := bcell hb1)))
    go_ret
    exact ⟨by rw [hs.out]; rfl, (by repeat' (first | exact Below.refl _ _ | (with_reducible assumption) | (with_reducible refine Below.alloc ?_ ?_ _) | (with_reducible refine Below.setCell ?_ ?_ _) | (with_reducible refine Below.drew ?_) | (with_reducible refine below_drewN ?_ _) | (refine Below.trans ?_ (Below.mono (by assumption) ?_)) | (with_reducible exact Nat.le_refl _) | (with_reducible assumption) | (exact Below.size (by assumption)) | omega | go_size | (simp at *; omega)))⟩
theorem commonPeriod_any (A : Option Addr) (n c : Nat) (A2 : Option Addr) (n2 c2 : Nat) (w : World) (h1 : 1 ≤ n) (h2 : 1 ≤ n2) (hn : n ≤ 12) (hn2 : n2 ≤ 12) :
    Calls Try.prog 81 #[.slice A n c, .slice A2 n2 c2] w fun e w' => e = .returned (.int .i64 (Nat.lcm n n2)) ∧ Below w.heap.size w w' := by
  have hl := lcm_bd h1 h2 hn hn2
  have hm := hid (multiple_any n n2 w h1 (by omega) (by omega) (by omega))
  clear hl
  go_enter Try.func81, Try.ntmps81
  go_wp2_with (first | (go_at_call 77; refine (period_any _ _ _ _ (by omega)).mono ?_; rintro e w' ⟨rfl, rfl⟩) | (go_at_call 76; refine (hm.out).mono ?_; rintro e w1 ⟨rfl, hb1⟩; first | (have hk1 := bchain (by assumption) hb1; obtain ⟨hc1, hf1, hz1, hl1⟩ := bcell hk1) | (obtain ⟨hc1, hf1, hz1, hl1⟩ := bcell hb1)))
  go_ret
  exact ⟨rfl, hb1⟩
theorem l14Common_any (A : Option Addr) (n c : Nat) (A2 : Option Addr) (n2 c2 : Nat) (w : World) (h1 : 1 ≤ n) (h2 : 1 ≤ n2) (hn : n ≤ 12) (hn2 : n2 ≤ 12) :
    Calls Try.prog 79 #[.slice A n c, .slice A2 n2 c2] w fun e w' => e = .returned (.int .i64 (Nat.lcm n n2)) ∧ w = w' := by
  have hm := hid (l14Period_any n n2 w h1 h2 (by omega) (by omega))
  go_enter Try.func79, Try.ntmps79
  go_wp2_with (go_at_call 100; refine (hm.out).mono ?_; rintro e w' ⟨rfl, rfl⟩)
  go_ret
  exact ⟨rfl, rfl⟩
theorem CommonPeriod_any (A : Option Addr) (n c : Nat) (p : List Int) (A2 : Option Addr) (n2 c2 : Nat) (o : List Int) (w : World) (hn : n ≤ 1099511627776) (hr : Rd w w.heap.size 1 A n (ints p)) (hn2 : n2 ≤ 1099511627776) (hr2 : Rd w w.heap.size 1 A2 n2 (ints o)) :
    Calls Try.prog 42 #[.slice A n c, .slice A2 n2 c2] w fun e w' => e = .returned (.tuple #[.int .i64 (rCommonPeriod p o).1, .int .i64 (rCommonPeriod p o).2]) ∧ Below w.heap.size w w' := by
  have hV := areHanded_any A n c p A2 n2 c2 o w hn hr hn2 hr2
  by_cases k : (okP p && hdOk o) = true
  · rw [k] at hV
    have hV := hid hV
    have hlen := hr.len
    have hlen2 := hr2.len
    have k1 := k
    simp only [Bool.and_eq_true] at k1
    have b1 := okP_len k1.1
    have b2 := hdOk_len2 k1.2
    have hs : Hid (rCommonPeriod p o = (((Nat.lcm n n2 : Nat) : Int), 0)) := by show _ = _; rw [rCommonPeriod, if_pos k, hlen, hlen2]
    have hC := hid (fun (w1 : World) => commonPeriod_any A n c A2 n2 c2 w1 (by omega) (by omega) (by omega) (by omega))
    generalize Nat.lcm n n2 = L at *
    clear hr hr2 k k1 hlen hlen2 b1 b2
    go_enter Try.func42, Try.ntmps42
    go_wp2_with (first | (go_at_call 80; refine (hV.out).mono ?_; rintro e w1 ⟨rfl, hb1⟩; first | (have hk1 := bchain (by assumption) hb1; obtain ⟨hc1, hf1, hz1, hl1⟩ := bcell hk1) | (obtain ⟨hc1, hf1, hz1, hl1⟩ := bcell hb1)) | (go_at_call 81; refine (hC.out _).mono ?_; rintro e w2 ⟨rfl, hb2⟩))
    go_ret2
    exact ⟨by rw [hs.out]; rfl, (by repeat' (first | exact Below.refl _ _ | (with_reducible assumption) | (with_reducible refine Below.alloc ?_ ?_ _) | (with_reducible refine Below.setCell ?_ ?_ _) | (with_reducible refine Below.drew ?_) | (with_reducible refine below_drewN ?_ _) | (refine Below.trans ?_ (Below.mono (by assumption) ?_)) | (with_reducible exact Nat.le_refl _) | (with_reducible assumption) | (exact Below.size (by assumption)) | omega | go_size | (simp at *; omega)))⟩
  · have k : (okP p && hdOk o) = false := by simpa using k
    rw [k] at hV
    have hV := hid hV
    have hs : Hid (rCommonPeriod p o = (0, 1)) := by show _ = _; simp only [rCommonPeriod, k]; rfl
    clear k hr hr2
    go_enter Try.func42, Try.ntmps42
    go_wp2_with (first | (go_at_call 80; refine (hV.out).mono ?_; rintro e w1 ⟨rfl, hb1⟩; first | (have hk1 := bchain (by assumption) hb1; obtain ⟨hc1, hf1, hz1, hl1⟩ := bcell hk1) | (obtain ⟨hc1, hf1, hz1, hl1⟩ := bcell hb1)))
    go_ret2
    exact ⟨by rw [hs.out]; rfl, (by repeat' (first | exact Below.refl _ _ | (with_reducible assumption) | (with_reducible refine Below.alloc ?_ ?_ _) | (with_reducible refine Below.setCell ?_ ?_ _) | (with_reducible refine Below.drew ?_) | (with_reducible refine below_drewN ?_ _) | (refine Below.trans ?_ (Below.mono (by assumption) ?_)) | (with_reducible exact Nat.le_refl _) | (with_reducible assumption) | (exact Below.size (by assumption)) | omega | go_size | (simp at *; omega)))⟩
theorem specCommonPeriod_any (A : Option Addr) (n c : Nat) (p : List Int) (A2 : Option Addr) (n2 c2 : Nat) (o : List Int) (w : World) (hn : n ≤ 1099511627776) (hr : Rd w w.heap.size 1 A n (ints p)) (hn2 : n2 ≤ 1099511627776) (hr2 : Rd w w.heap.size 1 A2 n2 (ints o)) :
    Calls Try.prog 41 #[.slice A n c, .slice A2 n2 c2] w fun e w' => e = .returned (.tuple #[.int .i64 (rCommonPeriod p o).1, .int .i64 (rCommonPeriod p o).2]) ∧ Below w.heap.size w w' := by
  have hV := l14Code_any A n c p A2 n2 c2 o w hn hr hn2 hr2
  by_cases k : (okP p && hdOk o) = true
  · rw [k] at hV
    have hV := hid hV
    have hlen := hr.len
    have hlen2 := hr2.len
    have k1 := k
    simp only [Bool.and_eq_true] at k1
    have b1 := okP_len k1.1
    have b2 := hdOk_len2 k1.2
    have hs : Hid (rCommonPeriod p o = (((Nat.lcm n n2 : Nat) : Int), 0)) := by show _ = _; rw [rCommonPeriod, if_pos k, hlen, hlen2]
    have hC := hid (fun (w1 : World) => l14Common_any A n c A2 n2 c2 w1 (by omega) (by omega) (by omega) (by omega))
    generalize Nat.lcm n n2 = L at *
    clear hr hr2 k k1 hlen hlen2 b1 b2
    go_enter Try.func41, Try.ntmps41
    go_wp2_with (first | (go_at_call 78; refine hV.out.mono ?_; rintro e w1 ⟨rfl, hb1⟩; unfold hcode) | (go_at_call 79; refine (hC.out _).mono ?_; rintro e w' ⟨rfl, rfl⟩))
    go_ret2
    exact ⟨by rw [hs.out]; rfl, (by repeat' (first | exact Below.refl _ _ | (with_reducible assumption) | (with_reducible refine Below.alloc ?_ ?_ _) | (with_reducible refine Below.setCell ?_ ?_ _) | (with_reducible refine Below.drew ?_) | (with_reducible refine below_drewN ?_ _) | (refine Below.trans ?_ (Below.mono (by assumption) ?_)) | (with_reducible exact Nat.le_refl _) | (with_reducible assumption) | (exact Below.size (by assumption)) | omega | go_size | (simp at *; omega)))⟩
  · have k : (okP p && hdOk o) = false := by simpa using k
    rw [k] at hV
    have hV := hid hV
    have hs : Hid (rCommonPeriod p o = (0, 1)) := by show _ = _; simp only [rCommonPeriod, k]; rfl
    clear k hr hr2
    go_enter Try.func41, Try.ntmps41
    go_wp2_with (first | (go_at_call 78; refine hV.out.mono ?_; rintro e w1 ⟨rfl, hb1⟩; unfold hcode))
    go_ret2
    exact ⟨by rw [hs.out]; rfl, (by repeat' (first | exact Below.refl _ _ | (with_reducible assumption) | (with_reducible refine Below.alloc ?_ ?_ _) | (with_reducible refine Below.setCell ?_ ?_ _) | (with_reducible refine Below.drew ?_) | (with_reducible refine below_drewN ?_ _) | (refine Below.trans ?_ (Below.mono (by assumption) ?_)) | (with_reducible exact Nat.le_refl _) | (with_reducible assumption) | (exact Below.size (by assumption)) | omega | go_size | (simp at *; omega)))⟩

set_option maxRecDepth 100000 in
set_option maxHeartbeats 2000000 in
theorem fnExactCommonPeriod_walk (w : World) (aPA : Option Addr) (aPN aPC : Nat) (aP : List Int) (aPK : Came .i64 w aPA aPN aPC aP) (aOrderA : Option Addr) (aOrderN aOrderC : Nat) (aOrder : List Int) (aOrderK : Came .i64 w aOrderA aOrderN aOrderC aOrder) :
    Calls Try.prog 12 #[.slice aPA aPN aPC, .slice aOrderA aOrderN aOrderC] w fun e w' => e = .returned (.bool true) ∧ Below w.heap.size w w' := by
  by_cases hlong0 : 1048576 < aPN
  · have hmaP := aPK.2.1
    go_enter Try.func12, Try.ntmps12
    go_wp2
    go_ret
    exact ⟨rfl, (by repeat' (first | exact Below.refl _ _ | (with_reducible assumption) | (with_reducible refine Below.alloc ?_ ?_ _) | (with_reducible refine Below.setCell ?_ ?_ _) | (with_reducible refine Below.drew ?_) | (with_reducible refine below_drewN ?_ _) | (refine Below.trans ?_ (Below.mono (by assumption) ?_)) | (with_reducible exact Nat.le_refl _) | (with_reducible assumption) | (exact Below.size (by assumption)) | omega | go_size | (simp at *; omega)))⟩
  by_cases hlong1 : 1048576 < aOrderN
  · have hmaP := aPK.2.1
    have hmaOrder := aOrderK.2.1
    go_enter Try.func12, Try.ntmps12
    go_wp2
    go_ret
    exact ⟨rfl, (by repeat' (first | exact Below.refl _ _ | (with_reducible assumption) | (with_reducible refine Below.alloc ?_ ?_ _) | (with_reducible refine Below.setCell ?_ ?_ _) | (with_reducible refine Below.drew ?_) | (with_reducible refine below_drewN ?_ _) | (refine Below.trans ?_ (Below.mono (by assumption) ?_)) | (with_reducible exact Nat.le_refl _) | (with_reducible assumption) | (exact Below.size (by assumption)) | omega | go_size | (simp at *; omega)))⟩
  have KaP := Rd.of_came aPK
  have KLaP := KaP.len
  have KaOrder := Rd.of_came aOrderK
  have KLaOrder := KaOrder.len
  have B0aP := hid aPK
  have B0aOrder := hid aOrderK
  have hS := hid (fun (AaP : Option Addr) (caP : Nat) (AaOrder : Option Addr) (caOrder : Nat) (w1 : World) (kaP : Rd w1 w1.heap.size 1 AaP aPN (ints aP)) (kaOrder : Rd w1 w1.heap.size 1 AaOrder aOrderN (ints aOrder)) => specCommonPeriod_any AaP aPN caP aP AaOrder aOrderN caOrder aOrder w1 (by omega) kaP (by omega) kaOrder)
  have hI := hid (fun (AaP : Option Addr) (caP : Nat) (AaOrder : Option Addr) (caOrder : Nat) (w1 : World) (kaP : Rd w1 w1.heap.size 1 AaP aPN (ints aP)) (kaOrder : Rd w1 w1.heap.size 1 AaOrder aOrderN (ints aOrder)) => CommonPeriod_any AaP aPN caP aP AaOrder aOrderN caOrder aOrder w1 (by omega) kaP (by omega) kaOrder)
  generalize rCommonPeriod aP aOrder = r at *
  obtain ⟨r0, r1⟩ := r
  have hB := Below.refl w.heap.size w
  have KaP := hid KaP
  clear KLaP
  have KaOrder := hid KaOrder
  clear KLaOrder
  go_enter Try.func12, Try.ntmps12
  go_wp2_with fail
  (refine (toInt64S_any _ _ _ _ _ (by omega) ((KaP.out.below hB (Nat.le_refl _)).more hB.size)).mono ?_; rintro e w1 ⟨v1, rfl, ho1, hb1⟩; obtain ⟨A1, c1, rfl⟩ := own_form ho1; have l1 := ho1.lt; have s1 := hb1.size; replace hB := bchain hB hb1)
  go_wp2_with fail
  (refine (toInt64S_any _ _ _ _ _ (by omega) ((KaOrder.out.below hB (Nat.le_refl _)).more hB.size)).mono ?_; rintro e w2 ⟨v2, rfl, ho2, hb2⟩; obtain ⟨A2, c2, rfl⟩ := own_form ho2; have l2 := ho2.lt; have s2 := hb2.size; replace hB := bchain hB hb2; replace ho1 := own_below ho1 hb2)
  go_wp2_with fail
  (refine (hS.out _ _ _ _ _ (Rd.of_own ho1) (Rd.of_own ho2)).mono ?_; rintro e w3 ⟨rfl, hb3⟩; have s3 := hb3.size; replace hB := bchain hB hb3)
  go_wp2_with fail
  (refine (toInt64S_any _ _ _ _ _ (by omega) ((KaP.out.below hB (Nat.le_refl _)).more hB.size)).mono ?_; rintro e w4 ⟨v4, rfl, ho4, hb4⟩; obtain ⟨A4, c4, rfl⟩ := own_form ho4; have l4 := ho4.lt; have s4 := hb4.size; replace hB := bchain hB hb4)
  go_wp2_with fail
  (refine (toInt64S_any _ _ _ _ _ (by omega) ((KaOrder.out.below hB (Nat.le_refl _)).more hB.size)).mono ?_; rintro e w5 ⟨v5, rfl, ho5, hb5⟩; obtain ⟨A5, c5, rfl⟩ := own_form ho5; have l5 := ho5.lt; have s5 := hb5.size; replace hB := bchain hB hb5; replace ho4 := own_below ho4 hb5)
  go_wp2_with fail
  (refine (hI.out _ _ _ _ _ (Rd.of_own ho4) (Rd.of_own ho5)).mono ?_; rintro e w6 ⟨rfl, hb6⟩; have s6 := hb6.size; replace hB := bchain hB hb6; replace ho4 := own_below ho4 hb6; replace ho5 := own_below ho5 hb6)
  go_wp2_with fail
  (refine (toInt64S_any _ _ _ _ _ (by omega) ((KaP.out.below hB (Nat.le_refl _)).more hB.size)).mono ?_; rintro e w7 ⟨v7, rfl, ho7, hb7⟩; obtain ⟨A7, c7, rfl⟩ := own_form ho7; have l7 := ho7.lt; have s7 := hb7.size; replace hB := bchain hB hb7; replace ho4 := own_below ho4 hb7; replace ho5 := own_below ho5 hb7)
  go_wp2_with fail
  (refine (eqInt64S_same _ _ _ _ _ _ _ (by omega) (Rd.of_own ho4) (Rd.of_own ho7)).mono ?_; rintro e w8 ⟨rfl, hb8⟩; have s8 := hb8.size; replace hB := bchain hB hb8; replace ho5 := own_below ho5 hb8)
  go_wp2_with fail
  (refine (toInt64S_any _ _ _ _ _ (by omega) ((KaOrder.out.below hB (Nat.le_refl _)).more hB.size)).mono ?_; rintro e w9 ⟨v9, rfl, ho9, hb9⟩; obtain ⟨A9, c9, rfl⟩ := own_form ho9; have l9 := ho9.lt; have s9 := hb9.size; replace hB := bchain hB hb9; replace ho5 := own_below ho5 hb9)
  go_wp2_with fail
  (refine (eqInt64S_same _ _ _ _ _ _ _ (by omega) (Rd.of_own ho5) (Rd.of_own ho9)).mono ?_; rintro e w10 ⟨rfl, hb10⟩; have s10 := hb10.size; replace hB := bchain hB hb10)
  go_wp2_with fail
  go_ret
  exact ⟨rfl, (by repeat' (first | exact Below.refl _ _ | (with_reducible assumption) | (with_reducible refine Below.alloc ?_ ?_ _) | (with_reducible refine Below.setCell ?_ ?_ _) | (with_reducible refine Below.drew ?_) | (with_reducible refine below_drewN ?_ _) | (refine Below.trans ?_ (Below.mono (by assumption) ?_)) | (with_reducible exact Nat.le_refl _) | (with_reducible assumption) | (exact Below.size (by assumption)) | omega | go_size | (simp at *; omega)))⟩

end Go.Proofs.Ythbbfhlpoinenaa
