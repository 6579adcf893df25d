/- Contracts of IsGround and CanFollow, and the walks of their laws. -/
import Derived.Test.YthbbfhlpoinenaaPc
import Derived.Test.YthbbfhlpoinenaaSq
import Derived.Test.YthbbfhlpoinenaaE
namespace Go.Proofs.Ythbbfhlpoinenaa
open Go.RowKit
set_option linter.unusedVariables false

/-- A pattern whose throws are at most 10. -/
def loB (p : List Int) : Bool := okP p && decide (hiT p ≤ 10)
theorem loB_iff {p : List Int} : loB p = true ↔ okP p = true ∧ hiT p ≤ 10 := by simp [loB]
theorem loB_code (p : List Int) : (stC p 0 10 = 0) ↔ loB p = true := by
  rw [loB_iff]
  constructor
  · intro h; have := stC_ok h; exact ⟨this.1, this.2.2.2.2.2⟩
  · rintro ⟨h1, h2⟩
    have hb : betweenB 0 (-1000) 1000 = true ∧ betweenB 10 1 10 = true := ⟨rfl, rfl⟩
    rw [stC, if_pos h1, if_pos (by rw [hb.1, hb.2]; rfl), if_neg (by omega)]
def rIsGround (p : List Int) : Bool := loB p && decide (((stM p 0 10 : Nat) : Int) = 2 ^ (prN p).toNat - 1)
def rCanFollow (p q : List Int) : Bool := loB p && loB q && decide (stM p 0 10 = stM q 0 10)
theorem isLow_any (A : Option Addr) (n c : Nat) (p : List Int) (w : World) (hn : n ≤ 1099511627776) (hr : Rd w w.heap.size 1 A n (ints p)) :
    Calls Try.prog 71 #[.slice A n c] w fun e w' => e = .returned (.bool (loB p)) ∧ Below w.heap.size w w' := by
  have hV := ValidPattern_any A n c p w hn hr
  by_cases k : okP p = true
  · rw [k] at hV
    have hV := hid hV
    have hs : Hid (loB p = decide (hiT p ≤ 10)) := by show _ = _; simp [loB, k]
    have HH := hid (fun (w1 : World) (h : Rd w1 w1.heap.size 1 A n (ints p)) => highest_any A n c p w1 hn (fun x hx => (thOk_iff (okP_th k)).1 x hx) h)
    have HR := hid hr
    generalize hiT p = M at *
    clear k hr
    by_cases hM : M ≤ 10
    · rw [decide_eq_true hM] at hs
      go_enter Try.func71, Try.ntmps71
      go_wp2_with (first | (go_at_call 65; refine (hV.out).mono ?_; rintro e w1 ⟨rfl, hb1⟩; first | (have hk1 := bchain (by assumption) hb1; obtain ⟨hc1, hf1, hz1, hl1⟩ := bcell hk1) | (obtain ⟨hc1, hf1, hz1, hl1⟩ := bcell hb1)) | (go_at_call 96; refine (HH.out _ ((HR.out.below hb1 (Nat.le_refl _)).more hb1.size)).mono ?_; rintro e w' ⟨rfl, rfl⟩))
      go_ret
      exact ⟨ret_bool hs.out.symm, hb1⟩
    · rw [decide_eq_false hM] at hs
      go_enter Try.func71, Try.ntmps71
      go_wp2_with (first | (go_at_call 65; refine (hV.out).mono ?_; rintro e w1 ⟨rfl, hb1⟩; first | (have hk1 := bchain (by assumption) hb1; obtain ⟨hc1, hf1, hz1, hl1⟩ := bcell hk1) | (obtain ⟨hc1, hf1, hz1, hl1⟩ := bcell hb1)) | (go_at_call 96; refine (HH.out _ ((HR.out.below hb1 (Nat.le_refl _)).more hb1.size)).mono ?_; rintro e w' ⟨rfl, rfl⟩))
      go_ret
      exact ⟨ret_bool (by rw [hs.out]; exact decide_eq_false (by omega)), hb1⟩
  · have k : okP p = false := by simpa using k
    rw [k] at hV
    have hV := hid hV
    have hs : Hid (loB p = false) := by show _ = _; simp [loB, k]
    clear k hr
    go_enter Try.func71, Try.ntmps71
    go_wp2_with (first | (go_at_call 65; refine (hV.out).mono ?_; rintro e w1 ⟨rfl, hb1⟩; first | (have hk1 := bchain (by assumption) hb1; obtain ⟨hc1, hf1, hz1, hl1⟩ := bcell hk1) | (obtain ⟨hc1, hf1, hz1, hl1⟩ := bcell hb1)))
    go_ret
    exact ⟨ret_bool hs.out.symm, hb1⟩
theorem ground_any (A : Option Addr) (n c : Nat) (p : List Int) (h : Int) (w : World) (hp : okP p = true) (hr : Rd w w.heap.size 1 A n (ints p)) :
    Calls Try.prog 83 #[.slice A n c, .int .i64 h] w fun e w' => e = .returned (.agg #[.int .i64 h, .int .i64 (2 ^ (prN p).toNat - 1)]) ∧ Below w.heap.size w w' := by
  have hb := prN_bd hp
  have hb2 := hiT_bd (okP_th hp)
  have hP := hid (fun (w1 : World) (h : Rd w1 w1.heap.size 1 A n (ints p)) => propsOf_any A n c p w1 hp h)
  obtain ⟨p1, p2, p3⟩ := pow_wrap (prN p) (by omega) (by omega)
  have HA : Hid (Rd (w.alloc (.cells #[.int .i64 0, .int .i64 0] 26)) (w.alloc (.cells #[.int .i64 0, .int .i64 0] 26)).heap.size 1 A n (ints p)) := (hr.alloc (Nat.le_refl _) _).more (by simp)
  generalize prN p = k at *
  have hk : k ≤ 15 := by omega
  clear hp hr hb2
  obtain ⟨hb, _⟩ := hb
  go_enter Try.func83, Try.ntmps83
  go_wp2_with (go_at_call 101; refine (hP.out _ HA.out).mono ?_; rintro e w' ⟨rfl, rfl⟩)
  exact bodyPost_ret (v := .agg #[.int .i64 h, .int .i64 (2 ^ k.toNat - 1)]) (by simp [results, Try.results83, go_sem]) rfl ⟨rfl, (by repeat' (first | exact Below.refl _ _ | (with_reducible assumption) | (with_reducible refine Below.alloc ?_ ?_ _) | (with_reducible refine Below.setCell ?_ ?_ _) | (with_reducible refine Below.drew ?_) | (with_reducible refine below_drewN ?_ _) | (refine Below.trans ?_ (Below.mono (by assumption) ?_)) | (with_reducible exact Nat.le_refl _) | (with_reducible assumption) | (exact Below.size (by assumption)) | omega | go_size | (simp at *; omega)))⟩
set_option maxHeartbeats 400000 in
theorem IsGround_any (A : Option Addr) (n c : Nat) (p : List Int) (w : World) (hn : n ≤ 1099511627776) (hr : Rd w w.heap.size 1 A n (ints p)) :
    Calls Try.prog 44 #[.slice A n c] w fun e w' => e = .returned (.bool (rIsGround p)) ∧ Below w.heap.size w w' := by
  have hV := isLow_any A n c p w hn hr
  by_cases k : loB p = true
  · rw [k] at hV
    have hV := hid hV
    have k1 := (loB_iff.1 k).1
    have HO := hid (fun (w1 : World) (r : Rd w1 w1.heap.size 1 A n (ints p)) => stateOf_any A n c p 0 10 w1 (by omega) (by omega) (by omega) k1 r)
    have HG := hid (fun (w1 : World) (r : Rd w1 w1.heap.size 1 A n (ints p)) => ground_any A n c p 10 w1 k1 r)
    have HR := hid hr
    obtain ⟨x, hx⟩ : ∃ x : Int, ((stM p 0 10 : Nat) : Int) = x := ⟨_, rfl⟩
    obtain ⟨y, hy⟩ : ∃ y : Int, (2 : Int) ^ (prN p).toNat - 1 = y := ⟨_, rfl⟩
    have hs : Hid (rIsGround p = decide (x = y)) := by show _ = _; simp [rIsGround, k, hx, hy]
    rw [hx] at HO
    rw [hy] at HG
    clear k k1 hr hx hy
    by_cases hxy : x = y
    · subst hxy
      have hs : Hid (rIsGround p = true) := by show _ = _; rw [hs.out]; simp
      go_enter Try.func44, Try.ntmps44
      go_wp2_with (first | (go_at_call 71; refine (hV.out).mono ?_; rintro e w1 ⟨rfl, hb1⟩; first | (have hk1 := bchain (by assumption) hb1; obtain ⟨hc1, hf1, hz1, hl1⟩ := bcell hk1) | (obtain ⟨hc1, hf1, hz1, hl1⟩ := bcell hb1)) | (go_at_call 72; refine (HO.out _ ((HR.out.below hb1 (Nat.le_refl _)).more hb1.size)).mono ?_; rintro e w2 ⟨rfl, hb2⟩; have hB2 := hid (bchain hb1 hb2)) | (go_at_call 83; refine (HG.out _ ((HR.out.below hB2.out (Nat.le_refl _)).more hB2.out.size)).mono ?_; rintro e w3 ⟨rfl, hb3⟩; have hB3 := hid (bchain hB2.out hb3)))
      go_ret
      exact ⟨ret_bool hs.out.symm, hB3.out⟩
    · have hs : Hid (rIsGround p = false) := by show _ = _; rw [hs.out]; simp [hxy]
      have hq : (x == y) = false := by simpa using hxy
      have hq2 : decide (x = y) = false := by simpa using hxy
      go_enter Try.func44, Try.ntmps44
      go_wp2_with (first | (go_at_call 71; refine (hV.out).mono ?_; rintro e w1 ⟨rfl, hb1⟩; first | (have hk1 := bchain (by assumption) hb1; obtain ⟨hc1, hf1, hz1, hl1⟩ := bcell hk1) | (obtain ⟨hc1, hf1, hz1, hl1⟩ := bcell hb1)) | (go_at_call 72; refine (HO.out _ ((HR.out.below hb1 (Nat.le_refl _)).more hb1.size)).mono ?_; rintro e w2 ⟨rfl, hb2⟩; have hB2 := hid (bchain hb1 hb2)) | (go_at_call 83; refine (HG.out _ ((HR.out.below hB2.out (Nat.le_refl _)).more hB2.out.size)).mono ?_; rintro e w3 ⟨rfl, hb3⟩; have hB3 := hid (bchain hB2.out hb3)))
      go_ret
      exact ⟨ret_bool hs.out.symm, hB3.out⟩
  · have k : loB p = false := by simpa using k
    rw [k] at hV
    have hV := hid hV
    have hs : Hid (rIsGround p = false) := by show _ = _; simp [rIsGround, k]
    clear k hr
    go_enter Try.func44, Try.ntmps44
    go_wp2_with (first | (go_at_call 71; refine (hV.out).mono ?_; rintro e w1 ⟨rfl, hb1⟩; first | (have hk1 := bchain (by assumption) hb1; obtain ⟨hc1, hf1, hz1, hl1⟩ := bcell hk1) | (obtain ⟨hc1, hf1, hz1, hl1⟩ := bcell hb1)))
    go_ret
    exact ⟨ret_bool hs.out.symm, hb1⟩
theorem count_st {p : List Int} (k : loB p = true) : popc 10 ((stM p 0 10 : Nat) : Int) = prN p := by
  obtain ⟨h1, h2⟩ := loB_iff.1 k
  rw [popc_stM, prN_cnt h1 (H := 10) h2]
set_option maxHeartbeats 400000 in
theorem specIsGround_any (A : Option Addr) (n c : Nat) (p : List Int) (w : World) (hn : n ≤ 1099511627776) (hr : Rd w w.heap.size 1 A n (ints p)) :
    Calls Try.prog 43 #[.slice A n c] w fun e w' => e = .returned (.bool (rIsGround p)) ∧ Below w.heap.size w w' := by
  have hV := l08Code_any A n c p 0 10 w hn hr
  by_cases k : loB p = true
  · rw [(loB_code p).2 k] at hV
    have hV := hid hV
    have k1 := (loB_iff.1 k).1
    have HO := hid (fun (w1 : World) (r : Rd w1 w1.heap.size 1 A n (ints p)) => l08Of_any A n c p 0 10 w1 (by omega) (by omega) (by omega) k1 r)
    have HR := hid hr
    have hbp := prN_bd k1
    have hbh := hiT_bd (okP_th k1)
    have hml := stM_lt p 0 10
    have HC := fun (w1 : World) => l08Count_any ((stM p 0 10 : Nat) : Int) 10 w1 (by omega) (by omega) (by omega)
    rw [count_st k] at HC
    have HG := fun (w1 : World) => l08Ground_any (prN p) w1 hbp.1 (by omega)
    obtain ⟨x, hx⟩ : ∃ x : Int, ((stM p 0 10 : Nat) : Int) = x := ⟨_, rfl⟩
    obtain ⟨y, hy⟩ : ∃ y : Int, (2 : Int) ^ (prN p).toNat - 1 = y := ⟨_, rfl⟩
    have hs : Hid (rIsGround p = (x == y)) := by show _ = _; simp [rIsGround, k, hx, hy]; rfl
    rw [hx] at HO HC
    rw [hy] at HG
    have HG := hid HG
    have HC := hid HC
    clear k k1 hr hx hy hbp hbh hml
    go_enter Try.func43, Try.ntmps43
    go_wp2_with (first | (go_at_call 69; refine (hV.out).mono ?_; rintro e w1 ⟨rfl, hb1⟩; first | (have hk1 := bchain (by assumption) hb1; obtain ⟨hc1, hf1, hz1, hl1⟩ := bcell hk1) | (obtain ⟨hc1, hf1, hz1, hl1⟩ := bcell hb1)) | (go_at_call 70; refine (HO.out _ ((HR.out.below hb1 (Nat.le_refl _)).more hb1.size)).mono ?_; rintro e w2 ⟨rfl, hb2⟩; have hB2 := hid (bchain hb1 hb2)))
    go_quiet (first | ((go_at_call 51; exact quiet_same (HC.out _))) | ((go_at_call 82; exact quiet_same (HG.out _))))
    go_wp2
    go_ret
    exact ⟨ret_bool hs.out.symm, by have h2 := hB2.out; exact (by repeat' (first | exact Below.refl _ _ | (with_reducible assumption) | (with_reducible refine Below.alloc ?_ ?_ _) | (with_reducible refine Below.setCell ?_ ?_ _) | (with_reducible refine Below.drew ?_) | (with_reducible refine below_drewN ?_ _) | (refine Below.trans ?_ (Below.mono (by assumption) ?_)) | (with_reducible exact Nat.le_refl _) | (with_reducible assumption) | (exact Below.size (by assumption)) | omega | go_size | (simp at *; omega)))⟩
  · have k0 : stC p 0 10 ≠ 0 := fun e => k ((loB_code p).1 e)
    have hq : (stC p 0 10 != 0) = true := by simpa using k0
    have k : loB p = false := by simpa using k
    have hs : Hid (rIsGround p = false) := by show _ = _; simp [rIsGround, k]
    have hV := hid hV
    generalize stC p 0 10 = C at *
    clear k hr k0
    go_enter Try.func43, Try.ntmps43
    go_wp2_with (first | (go_at_call 69; refine (hV.out).mono ?_; rintro e w1 ⟨rfl, hb1⟩; first | (have hk1 := bchain (by assumption) hb1; obtain ⟨hc1, hf1, hz1, hl1⟩ := bcell hk1) | (obtain ⟨hc1, hf1, hz1, hl1⟩ := bcell hb1)))
    go_ret
    exact ⟨ret_bool hs.out.symm, hb1⟩

theorem fnExactIsGround_walk (w : World) (aPA : Option Addr) (aPN aPC : Nat) (aP : List Int) (aPK : Came .i64 w aPA aPN aPC aP) :
    Calls Try.prog 13 #[.slice aPA aPN aPC] w fun e w' => e = .returned (.bool true) ∧ Below w.heap.size w w' := by
  by_cases hlong0 : 1048576 < aPN
  · have hmaP := aPK.2.1
    go_enter Try.func13, Try.ntmps13
    go_wp2
    go_ret
    exact ⟨rfl, (by repeat' (first | exact Below.refl _ _ | (with_reducible assumption) | (with_reducible refine Below.alloc ?_ ?_ _) | (with_reducible refine Below.setCell ?_ ?_ _) | (with_reducible refine Below.drew ?_) | (with_reducible refine below_drewN ?_ _) | (refine Below.trans ?_ (Below.mono (by assumption) ?_)) | (with_reducible exact Nat.le_refl _) | (with_reducible assumption) | (exact Below.size (by assumption)) | omega | go_size | (simp at *; omega)))⟩
  have KaP := Rd.of_came aPK
  have KLaP := KaP.len
  have B0aP := hid aPK
  have hS := hid (fun (AaP : Option Addr) (caP : Nat) (w1 : World) (kaP : Rd w1 w1.heap.size 1 AaP aPN (ints aP)) => specIsGround_any AaP aPN caP aP w1 (by omega) kaP)
  have hI := hid (fun (AaP : Option Addr) (caP : Nat) (w1 : World) (kaP : Rd w1 w1.heap.size 1 AaP aPN (ints aP)) => IsGround_any AaP aPN caP aP w1 (by omega) kaP)
  generalize rIsGround aP = r at *
  have hB := Below.refl w.heap.size w
  go_enter Try.func13, Try.ntmps13
  go_wp2_with (go_at_call 19; refine (toInt64S_any _ _ _ _ _ (by omega) ((KaP.below hB (Nat.le_refl _)).more hB.size)).mono ?_; rintro e w1 ⟨v1, rfl, ho1, hb1⟩; obtain ⟨A1, c1, rfl⟩ := own_form ho1; have l1 := ho1.lt; have s1 := hb1.size; replace hB := bchain hB hb1)
  go_wp2_with (go_at_call 43; refine (hS.out _ _ _ (Rd.of_own ho1)).mono ?_; rintro e w2 ⟨rfl, hb2⟩; have s2 := hb2.size; replace hB := bchain hB hb2)
  go_wp2_with (go_at_call 19; refine (toInt64S_any _ _ _ _ _ (by omega) ((KaP.below hB (Nat.le_refl _)).more hB.size)).mono ?_; rintro e w3 ⟨v3, rfl, ho3, hb3⟩; obtain ⟨A3, c3, rfl⟩ := own_form ho3; have l3 := ho3.lt; have s3 := hb3.size; replace hB := bchain hB hb3)
  go_wp2_with (go_at_call 44; refine (hI.out _ _ _ (Rd.of_own ho3)).mono ?_; rintro e w4 ⟨rfl, hb4⟩; have s4 := hb4.size; replace hB := bchain hB hb4; replace ho3 := own_below ho3 hb4)
  go_wp2_with (go_at_call 19; refine (toInt64S_any _ _ _ _ _ (by omega) ((KaP.below hB (Nat.le_refl _)).more hB.size)).mono ?_; rintro e w5 ⟨v5, rfl, ho5, hb5⟩; obtain ⟨A5, c5, rfl⟩ := own_form ho5; have l5 := ho5.lt; have s5 := hb5.size; replace hB := bchain hB hb5; replace ho3 := own_below ho3 hb5)
  go_wp2_with (go_at_call 21; refine (eqInt64S_same _ _ _ _ _ _ _ (by omega) (Rd.of_own ho3) (Rd.of_own ho5)).mono ?_; rintro e w6 ⟨rfl, hb6⟩; have s6 := hb6.size; replace hB := bchain hB hb6)
  go_ret
  exact ⟨rfl, (by repeat' (first | exact Below.refl _ _ | (with_reducible assumption) | (with_reducible refine Below.alloc ?_ ?_ _) | (with_reducible refine Below.setCell ?_ ?_ _) | (with_reducible refine Below.drew ?_) | (with_reducible refine below_drewN ?_ _) | (refine Below.trans ?_ (Below.mono (by assumption) ?_)) | (with_reducible exact Nat.le_refl _) | (with_reducible assumption) | (exact Below.size (by assumption)) | omega | go_size | (simp at *; omega)))⟩


end Go.Proofs.Ythbbfhlpoinenaa
