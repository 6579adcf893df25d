/- Contracts of PropsInOrder, and the walk of its law. -/
import Derived.Test.YteaabniemlnjbaaPr
namespace Go.Proofs.Yteaabniemlnjbaa
open Go.RowKit
set_option linter.unusedVariables false

/-- What PropsInOrder gives. -/
def rPropsInOrder (p : List Int) (b : Int) : List Int × Int := if okP p then (if betweenB b 0 200 then (prs p b.toNat, 0) else ([], 2)) else ([], 1)
theorem PropsInOrder_len (p : List Int) (b : Int) : (rPropsInOrder p b).1.length ≤ 200 := by
  unfold rPropsInOrder
  split
  · split
    · rename_i h
      obtain ⟨h0, h1⟩ := (betweenB_iff _ _ _).1 h
      rw [prs_len]; omega
    · simp
  · simp

theorem PropsInOrder_any (A : Option Addr) (n c : Nat) (p : List Int) (b : Int) (w : World) (hn : n ≤ 1099511627776) (hr : Rd w w.heap.size 1 A n (ints p)) :
    Calls Try.prog 51 #[.slice A n c, .int .i64 b] w fun e w' => ∃ v, e = .returned (.tuple #[v, .int .i64 (rPropsInOrder p b).2]) ∧ w'.ownsRow w.heap.size 2 1 v (rPropsInOrder p b).1.length (ints (rPropsInOrder p b).1) ∧ Below w.heap.size w w' := by
  have hV := ValidPattern_any A n c p w hn hr
  by_cases k : okP p = true
  · rw [k] at hV
    have hV := hid hV
    by_cases k2 : betweenB b 0 200 = true
    · obtain ⟨b0, b1⟩ := (betweenB_iff _ _ _).1 k2
      obtain ⟨j, rfl⟩ := Int.eq_ofNat_of_zero_le b0
      have hs : Hid (rPropsInOrder p (j : Int) = (prs p j, 0)) := by show _ = _; simp [rPropsInOrder, k, k2]
      have hl := hid (prs_len p j)
      have HS := hid (fun (w1 : World) (h : Rd w1 w1.heap.size 1 A n (ints p)) => propsAt_any A n c p j w1 (by omega) k h)
      have HR := hid hr
      clear hr k
      go_enter Try.func51, Try.ntmps51
      go_wp2_with (first | (go_at_call 64; refine (hV.out).mono ?_; rintro e w1 ⟨rfl, hb1⟩; first | (have hk1 := bchain (by assumption) hb1; obtain ⟨hc1, hf1, hz1, hl1⟩ := bcell hk1) | (obtain ⟨hc1, hf1, hz1, hl1⟩ := bcell hb1)) | (go_at_call 79; refine (between_any _ _ _ _).mono ?_; rintro e w' ⟨rfl, rfl⟩) | (go_at_call 81; refine (HS.out _ ((HR.out.below hb1 (Nat.le_refl _)).more hb1.size)).mono ?_; rintro e w2 ⟨v2, rfl, ho2, hb2⟩))
      go_ret2
      rw [hs.out]
      exact ⟨_, rfl, own_more (by rw [hl.out]; exact ho2) hb1.size, (by repeat' (first | exact Below.refl _ _ | (with_reducible assumption) | (with_reducible refine Below.alloc ?_ ?_ _) | (with_reducible refine Below.setCell ?_ ?_ _) | (with_reducible refine Below.drew ?_) | (with_reducible refine below_drewN ?_ _) | (refine Below.trans ?_ (Below.mono (by assumption) ?_)) | (with_reducible exact Nat.le_refl _) | (with_reducible assumption) | (exact Below.size (by assumption)) | omega | go_size | (simp at *; omega)))⟩
    · have k2 : betweenB b 0 200 = false := by simpa using k2
      have hs : Hid (rPropsInOrder p b = ([], 2)) := by show _ = _; simp [rPropsInOrder, k, k2]
      clear k hr
      go_enter Try.func51, Try.ntmps51
      go_wp2_with (first | (go_at_call 64; refine (hV.out).mono ?_; rintro e w1 ⟨rfl, hb1⟩; first | (have hk1 := bchain (by assumption) hb1; obtain ⟨hc1, hf1, hz1, hl1⟩ := bcell hk1) | (obtain ⟨hc1, hf1, hz1, hl1⟩ := bcell hb1)) | (go_at_call 79; refine (between_any _ _ _ _).mono ?_; rintro e w' ⟨rfl, rfl⟩))
      go_ret2
      rw [hs.out]
      exact ⟨_, rfl, World.ownsRow_nil _ _ _ _, (by repeat' (first | exact Below.refl _ _ | (with_reducible assumption) | (with_reducible refine Below.alloc ?_ ?_ _) | (with_reducible refine Below.setCell ?_ ?_ _) | (with_reducible refine Below.drew ?_) | (with_reducible refine below_drewN ?_ _) | (refine Below.trans ?_ (Below.mono (by assumption) ?_)) | (with_reducible exact Nat.le_refl _) | (with_reducible assumption) | (exact Below.size (by assumption)) | omega | go_size | (simp at *; omega)))⟩
  · have k : okP p = false := by simpa using k
    rw [k] at hV
    have hV := hid hV
    have hs : Hid (rPropsInOrder p b = ([], 1)) := by show _ = _; simp [rPropsInOrder, k]
    clear k hr
    go_enter Try.func51, Try.ntmps51
    go_wp2_with (first | (go_at_call 64; refine (hV.out).mono ?_; rintro e w1 ⟨rfl, hb1⟩; first | (have hk1 := bchain (by assumption) hb1; obtain ⟨hc1, hf1, hz1, hl1⟩ := bcell hk1) | (obtain ⟨hc1, hf1, hz1, hl1⟩ := bcell hb1)))
    go_ret2
    rw [hs.out]
    exact ⟨_, rfl, World.ownsRow_nil _ _ _ _, (by repeat' (first | exact Below.refl _ _ | (with_reducible assumption) | (with_reducible refine Below.alloc ?_ ?_ _) | (with_reducible refine Below.setCell ?_ ?_ _) | (with_reducible refine Below.drew ?_) | (with_reducible refine below_drewN ?_ _) | (refine Below.trans ?_ (Below.mono (by assumption) ?_)) | (with_reducible exact Nat.le_refl _) | (with_reducible assumption) | (exact Below.size (by assumption)) | omega | go_size | (simp at *; omega)))⟩


end Go.Proofs.Yteaabniemlnjbaa
