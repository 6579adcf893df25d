/- 'among' tells one of the numbers; four numbers that have just been laid. -/
import Derived.Test.YtlbhfjbbkkkldaaDw
namespace Go.Proofs.Ytlbhfjbbkkkldaa
open Go.RowKit
set_option linter.unusedVariables false

/-- 'among' tells one of the numbers. -/
theorem among_in (Q : Int → Prop) (g : Nat) (A : Option Addr) (n c K : Nat) (xs : List Int) (b off m c2 : Nat) (w : World) (hK : K ≤ 1000000) (hb : b ≠ g) (hbl : b < w.heap.size) (hm1 : 1 ≤ m) (hm2 : m ≤ 100) (hc : ∀ i, i < m → ∃ y, Q y ∧ w.cell? ⟨b, off + i, none⟩ = some (.int .i64 y)) (h : Src w g A n c xs K) :
    Calls Try.prog 120 #[.pointer (some ⟨g, 0, none⟩), .slice (some ⟨b, off, none⟩) m c2] w fun e w' => (∃ y, Q y ∧ e = .returned (.int .i64 y)) ∧ Src w' g A n c xs (K + 2) ∧ w.grownBy w' (some g) := by
  have hP := hid (pick_src g A n c K xs (m : Int) w (by omega) (by omega) h)
  have HC := hid hc
  clear h hc
  go_enter Try.func120, Try.ntmps120
  go_wp2_with fail
  refine hP.out.mono ?_
  rintro e w1 ⟨⟨x, x0, x1, rfl⟩, hs1, hg1⟩
  obtain ⟨i, rfl⟩ := Int.eq_ofNat_of_zero_le x0
  have hi : i < m := by omega
  obtain ⟨y, hQ, hy⟩ := HC.out i hi
  have HQ := hid hQ
  have hcell : w1.cell? ⟨b, off + i, none⟩ = some (.int .i64 y) := (World.cell?_of_block (hg1.block b hbl (by simp; exact hb))).trans hy
  clear x1 hQ
  go_wp2
  go_ret
  exact ⟨⟨y, HQ.out, rfl⟩, hs1, hg1⟩
theorem cell_heapq {w w' : World} (hh : w'.heap = w.heap) (p : Addr) : w'.cell? p = w.cell? p := by
  unfold World.cell?
  rw [hh]
theorem four_in (w w' : World) (t : TypeId) (b : Nat) (hb : b = w.heap.size) (hw : w'.heap = (w.alloc (Obj.cells #[.int .i64 (-1), .int .i64 0, .int .i64 15, .int .i64 16] t)).heap) : ∀ i, i < 4 → ∃ y : Int, True ∧ w'.cell? ⟨b, 0 + i, none⟩ = some (.int .i64 y) := by
  intro i hi
  subst hb
  rw [cell_heapq hw]
  match i, hi with
  | 0, _ => exact ⟨-1, trivial, by simp⟩
  | 1, _ => exact ⟨0, trivial, by simp⟩
  | 2, _ => exact ⟨15, trivial, by simp⟩
  | 3, _ => exact ⟨16, trivial, by simp⟩
theorem drew_alloc (w : World) (o : Obj) : (w.drew.alloc o).heap = (w.alloc o).heap := rfl
theorem alloc_drew (w : World) (o : Obj) : ((w.alloc o).drew).heap = (w.alloc o).heap := rfl
theorem below_heap {B : Nat} {w w1 w' : World} (hb : Below B w w1) (h : w'.heap = w1.heap) (o1 : w'.os = w1.os) (o2 : w'.tape = w1.tape) (o3 : w'.output = w1.output) : Below B w w' :=
  ⟨o1.trans hb.os, o2.trans hb.tape, o3.trans hb.output, by rw [h]; exact hb.size, fun k hk => by rw [h]; exact hb.block k hk⟩
end Go.Proofs.Ytlbhfjbbkkkldaa
