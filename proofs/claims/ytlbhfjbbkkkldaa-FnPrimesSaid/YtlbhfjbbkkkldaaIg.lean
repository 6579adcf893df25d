/- Contracts of IsGround and CanFollow, and the walks of their laws. -/
import Derived.Test.YtlbhfjbbkkkldaaPc
import Derived.Test.YtlbhfjbbkkkldaaSq
import Derived.Test.YtlbhfjbbkkkldaaE
namespace Go.Proofs.Ytlbhfjbbkkkldaa
open Go.RowKit
set_option linter.unusedVariables false

/-- A pattern whose throws are at most 10. -/
def loB (p : List Int) : Bool := okP p && decide (hiT p ≤ 10)
theorem loB_iff {p : List Int} : loB p = true ↔ okP p = true ∧ hiT p ≤ 10 := by simp [loB]
theorem loB_code (p : List Int) : (stC p 0 10 = 0) ↔ loB p = true := by
  rw [loB_iff]
  constructor
  · intro h; have := stC_ok h; exact ⟨this.1, this.2.2.2.2.2⟩
  · rintro ⟨h1, h2⟩
    have hb : betweenB 0 (-1000) 1000 = true ∧ betweenB 10 1 10 = true := ⟨rfl, rfl⟩
    rw [stC, if_pos h1, if_pos (by rw [hb.1, hb.2]; rfl), if_neg (by omega)]
def rIsGround (p : List Int) : Bool := loB p && decide (((stM p 0 10 : Nat) : Int) = 2 ^ (prN p).toNat - 1)
def rCanFollow (p q : List Int) : Bool := loB p && loB q && decide (stM p 0 10 = stM q 0 10)
theorem isLow_any (A : Option Addr) (n c : Nat) (p : List Int) (w : World) (hn : n ≤ 1099511627776) (hr : Rd w w.heap.size 1 A n (ints p)) :
    Calls Try.prog 131 #[.slice A n c] w fun e w' => e = .returned (.bool (loB p)) ∧ Below w.heap.size w w' := by
  have hV := ValidPattern_any A n c p w hn hr
  by_cases k : okP p = true
  · rw [k] at hV
    have hV := hid hV
    have hs : Hid (loB p = decide (hiT p ≤ 10)) := by show _ = _; simp [loB, k]
    have HH := hid (fun (w1 : World) (h : Rd w1 w1.heap.size 1 A n (ints p)) => highest_any A n c p w1 hn (fun x hx => (thOk_iff (okP_th k)).1 x hx) h)
    have HR := hid hr
    generalize hiT p = M at *
    clear k hr
    by_cases hM : M ≤ 10
    · rw [decide_eq_true hM] at hs
      go_enter Try.func131, Try.ntmps131
      go_wp2_with (first | (go_at_call 97; refine (hV.out).mono ?_; rintro e w1 ⟨rfl, hb1⟩; first | (have hk1 := bchain (by assumption) hb1; obtain ⟨hc1, hf1, hz1, hl1⟩ := bcell hk1) | (obtain ⟨hc1, hf1, hz1, hl1⟩ := bcell hb1)) | (go_at_call 161; refine (HH.out _ ((HR.out.below hb1 (Nat.le_refl _)).more hb1.size)).mono ?_; rintro e w' ⟨rfl, rfl⟩))
      go_ret
      exact ⟨ret_bool hs.out.symm, hb1⟩
    · rw [decide_eq_false hM] at hs
      go_enter Try.func131, Try.ntmps131
      go_wp2_with (first | (go_at_call 97; refine (hV.out).mono ?_; rintro e w1 ⟨rfl, hb1⟩; first | (have hk1 := bchain (by assumption) hb1; obtain ⟨hc1, hf1, hz1, hl1⟩ := bcell hk1) | (obtain ⟨hc1, hf1, hz1, hl1⟩ := bcell hb1)) | (go_at_call 161; refine (HH.out _ ((HR.out.below hb1 (Nat.le_refl _)).more hb1.size)).mono ?_; rintro e w' ⟨rfl, rfl⟩))
      go_ret
      exact ⟨ret_bool (by rw [hs.out]; exact decide_eq_false (by omega)), hb1⟩
  · have k : okP p = false := by simpa using k
    rw [k] at hV
    have hV := hid hV
    have hs : Hid (loB p = false) := by show _ = _; simp [loB, k]
    clear k hr
    go_enter Try.func131, Try.ntmps131
    go_wp2_with (first | (go_at_call 97; refine (hV.out).mono ?_; rintro e w1 ⟨rfl, hb1⟩; first | (have hk1 := bchain (by assumption) hb1; obtain ⟨hc1, hf1, hz1, hl1⟩ := bcell hk1) | (obtain ⟨hc1, hf1, hz1, hl1⟩ := bcell hb1)))
    go_ret
    exact ⟨ret_bool hs.out.symm, hb1⟩
theorem count_st {p : List Int} (k : loB p = true) : popc 10 ((stM p 0 10 : Nat) : Int) = prN p := by
  obtain ⟨h1, h2⟩ := loB_iff.1 k
  rw [popc_stM, prN_cnt h1 (H := 10) h2]



end Go.Proofs.Ytlbhfjbbkkkldaa
