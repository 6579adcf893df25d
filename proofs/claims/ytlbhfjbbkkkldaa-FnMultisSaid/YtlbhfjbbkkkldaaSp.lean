/- The contract of the reference's l01Spoil, which spoils a text. -/
import Derived.Test.YtlbhfjbbkkkldaaDw
import Derived.Deep.RegionWith
namespace Go.Proofs.Ytlbhfjbbkkkldaa
open Go.RowKit
set_option linter.unusedVariables false

theorem bool_bne (b : Bool) : (b != b) = false := by simp
theorem int_bne (b : Int) : (b != b) = false := by simp
theorem toList_eqq (T : ByteArray) : (T.toList == T.toList) = true := by simp
theorem toList_ne {t : ByteArray} (h : ¬ t.size = 0) : t.toList.isEmpty = false := by
  rw [ByteArray.toList_eq]
  cases e : t.data.toList with
  | nil =>
    exfalso
    have h2 : t.data.toList.length = 0 := by rw [e]; rfl
    rw [Array.length_toList] at h2
    exact h h2
  | cons x xs => rfl
/-- A text that is not long. -/
def StrRes (e : Ending) : Prop := ∃ s : ByteArray, s.size ≤ 1100 ∧ e = .returned (.string s)
theorem seven_any (w : World) (b : Nat) (hb : b = w.heap.size) (t : TypeId) : ∀ i, i < 7 → ∃ y : ByteArray, y.size ≤ 12 ∧ (w.alloc (Obj.cells #[.string ⟨#[32]⟩, .string ⟨#[48]⟩, .string ⟨#[45]⟩, .string ⟨#[120]⟩, .string ⟨#[49]⟩, .string ⟨#[57]⟩, .string ⟨#[46]⟩] t)).cell? ⟨b, 0 + i, none⟩ = some (.string y) := by
  intro i hi
  subst hb
  rw [World.cell?_alloc_at _ _ _ _ rfl]
  match i, hi with
  | 0, _ => refine ⟨_, ?_, rfl⟩; decide
  | 1, _ => refine ⟨_, ?_, rfl⟩; decide
  | 2, _ => refine ⟨_, ?_, rfl⟩; decide
  | 3, _ => refine ⟨_, ?_, rfl⟩; decide
  | 4, _ => refine ⟨_, ?_, rfl⟩; decide
  | 5, _ => refine ⟨_, ?_, rfl⟩; decide
  | 6, _ => refine ⟨_, ?_, rfl⟩; decide
theorem seven_drew (w : World) (t : TypeId) : ∀ i, i < 7 → ∃ y : ByteArray, y.size ≤ 12 ∧ (w.alloc (Obj.cells #[.string ⟨#[32]⟩, .string ⟨#[48]⟩, .string ⟨#[45]⟩, .string ⟨#[120]⟩, .string ⟨#[49]⟩, .string ⟨#[57]⟩, .string ⟨#[46]⟩] t)).drew.cell? ⟨w.heap.size, 0 + i, none⟩ = some (.string y) := seven_any w _ rfl t
set_option maxHeartbeats 1000000 in
theorem l01Spoil_src (g : Nat) (A : Option Addr) (n c K : Nat) (xs : List Int) (t : ByteArray) (w : World) (hK : K ≤ 500) (ht : t.size ≤ 1000) (h : Src w g A n c xs K) :
    Calls Try.prog 78 #[.pointer (some ⟨g, 0, none⟩), .string t] w fun e w' => StrRes e ∧ Src w' g A n c xs (K + 10) ∧ w.grownBy w' (some g) := by
  have hgl := h.lt
  have hP := hid (pick_src g A n c K xs 5 w (by omega) (by omega) h)
  clear h
  go_enter Try.func78, Try.ntmps78
  go_wp2_with fail
  refine hP.out.mono ?_
  rintro e w1 ⟨⟨x, x0, x1, rfl⟩, hs1, hg1⟩
  have hz1 := hg1.size
  clear hP
  by_cases c0 : x = 0
  · subst c0
    go_wp2_with fail
    refine (pick_src g A n c (K + 2) xs ((t.size : Int) + 1) w1 (by omega) (by omega) hs1).mono ?_
    rintro e w2 ⟨⟨y, y0, y1, rfl⟩, hs2, hg2⟩
    obtain ⟨a, rfl⟩ := Int.eq_ofNat_of_zero_le y0
    have ha : a ≤ t.size := by omega
    have f1 : (a : Int) ≤ (t.size : Int) := by omega
    have hgg2 := grown_trans hg1 hg2
    have hz2 := hgg2.size
    clear hs1 hg1 hg2 y1
    go_wp2
    go_region_with (go_at_call 75; refine (text_src g A n c (K + 4) xs w2.heap.size 0 7 7 _ (by omega) (by omega) (by simp) (by omega) (by omega) (seven_drew w2 _) (hs2.below (B := w2.heap.size) (by repeat' (first | exact Below.refl _ _ | (with_reducible assumption) | (with_reducible refine Below.alloc ?_ ?_ _) | (with_reducible refine Below.setCell ?_ ?_ _) | (with_reducible refine Below.drew ?_) | (with_reducible refine below_drewN ?_ _) | (refine Below.trans ?_ (Below.mono (by assumption) ?_)) | (with_reducible exact Nat.le_refl _) | (with_reducible assumption) | (exact Below.size (by assumption)) | omega | go_size | (simp at *; omega))) (by omega))).mono ?_; rintro e w3 ⟨⟨z, hz, rfl⟩, hs3, hg3⟩)
    all_goals
      go_simp
      go_wp2
      go_ret
      exact ⟨⟨_, by simp only [ByteArray.size_append, ByteArray.size_extract]; omega, rfl⟩, hs3.more (by omega), grown_trans (grown_bl hgg2 (B := w2.heap.size) (by repeat' (first | exact Below.refl _ _ | (with_reducible assumption) | (with_reducible refine Below.alloc ?_ ?_ _) | (with_reducible refine Below.setCell ?_ ?_ _) | (with_reducible refine Below.drew ?_) | (with_reducible refine below_drewN ?_ _) | (refine Below.trans ?_ (Below.mono (by assumption) ?_)) | (with_reducible exact Nat.le_refl _) | (with_reducible assumption) | (exact Below.size (by assumption)) | omega | go_size | (simp at *; omega))) hz2) hg3⟩
  · by_cases c1 : x = 1
    · subst c1
      by_cases ht0 : t.size = 0
      · have hte : t = ⟨#[]⟩ := by
          obtain ⟨d⟩ := t
          have hd : d.size = 0 := ht0
          rw [Array.eq_empty_of_size_eq_zero hd]
        subst hte
        go_wp2
        go_ret
        exact ⟨⟨_, by omega, rfl⟩, hs1.more (by omega), hg1⟩
      · have hq1 : t.toList.isEmpty = false := toList_ne ht0
        go_wp2_with fail
        refine (pick_src g A n c (K + 2) xs (t.size : Int) w1 (by omega) (by omega) hs1).mono ?_
        rintro e w2 ⟨⟨y, y0, y1, rfl⟩, hs2, hg2⟩
        obtain ⟨a, rfl⟩ := Int.eq_ofNat_of_zero_le y0
        have ha : a < t.size := by omega
        have f1 : (a : Int) ≤ (t.size : Int) := by omega
        have f2 : (a : Int) + 1 ≤ (t.size : Int) := by omega
        have hgg2 := grown_trans hg1 hg2
        clear hs1 hg1 hg2 y1
        go_wp2
        go_quiet (fail)
        go_wp2
        go_ret
        exact ⟨⟨_, by simp only [ByteArray.size_append, ByteArray.size_extract]; omega, rfl⟩, (show Src (w2.drewN nq) g A n c xs (K + 4) from hs2).more (by omega), grown_bl hgg2 (B := w.heap.size) (by repeat' (first | exact Below.refl _ _ | (with_reducible assumption) | (with_reducible refine Below.alloc ?_ ?_ _) | (with_reducible refine Below.setCell ?_ ?_ _) | (with_reducible refine Below.drew ?_) | (with_reducible refine below_drewN ?_ _) | (refine Below.trans ?_ (Below.mono (by assumption) ?_)) | (with_reducible exact Nat.le_refl _) | (with_reducible assumption) | (exact Below.size (by assumption)) | omega | go_size | (simp at *; omega))) (Nat.le_refl _)⟩
    · go_wp2
      go_ret
      exact ⟨⟨t, by omega, rfl⟩, hs1.more (by omega), hg1⟩
end Go.Proofs.Ytlbhfjbbkkkldaa
