/- Contracts of the laws' own helpers over multiplex and passing patterns and notations. -/
import Derived.Test.YtkglkpohbckpcaaNm
import Derived.Test.YtkglkpohbckpcaaNqa
namespace Go.Proofs.Ytkglkpohbckpcaa
open Go.RowKit
set_option linter.unusedVariables false

theorem eqMulti_same (A A' : Option Addr) (n c c' : Nat) (rows : List (List Int)) (w : World) (hn : n ≤ 1099511627776) (hlr : ∀ r ∈ rows, r.length ≤ 1099511627776) (k : RdG w w.heap.size A n rows) (k' : RdG w w.heap.size A' n rows) :
    Calls Try.prog 94 #[.agg #[.slice A n c], .agg #[.slice A' n c']] w fun e w' => e = .returned (.bool true) ∧ Below w.heap.size w w' := by
  obtain ⟨W, hW⟩ : ∃ W, (w.alloc (Obj.cells #[.slice A n c] 34)).alloc (Obj.cells #[.slice A' n c'] 34) = W := ⟨_, rfl⟩
  have hbW : Below w.heap.size w W := by rw [← hW]; exact (by repeat' (first | exact Below.refl _ _ | (with_reducible assumption) | (with_reducible refine Below.alloc ?_ ?_ _) | (with_reducible refine Below.setCell ?_ ?_ _) | (with_reducible refine Below.drew ?_) | (with_reducible refine below_drewN ?_ _) | (refine Below.trans ?_ (Below.mono (by assumption) ?_)) | (with_reducible exact Nat.le_refl _) | (with_reducible assumption) | (exact Below.size (by assumption)) | omega | go_size | (simp at *; omega)))
  have hC := eqInt64SS_same A A' n c c' rows W hn hlr ((k.below hbW (Nat.le_refl _)).more hbW.size) ((k'.below hbW (Nat.le_refl _)).more hbW.size)
  rw [← hW] at hC hbW
  have hC := hid hC
  have HB := hid hbW
  clear k k' hlr hW hbW
  go_enter Try.func94, Try.ntmps94
  go_wp2_with fail
  refine hC.out.mono ?_
  rintro e w1 ⟨rfl, hb1⟩
  have hB1 := bchain HB.out hb1
  clear hC hb1
  go_wp2
  go_ret
  exact ⟨rfl, hB1⟩
theorem Grid.mark2 {w : World} {base M i : Nat} {v : Value} {rows : List (List Int)} {row : List Int} (h : Grid w base M v rows) (hi : rows[i]? = some row) :
    ∃ b c Ai ci, v = .slice (some ⟨b, 0, none⟩) rows.length c ∧ w.cell? ⟨b, i, none⟩ = some (.slice Ai row.length ci) ∧ w.ownsRow base 2 1 (.slice Ai row.length ci) row.length (ints row) ∧
      (∀ g, (Value.slice Ai row.length ci).ownBlock = some g → g < M) ∧
      ∀ w' row', row'.length = row.length → w.grownBy w' (Value.slice Ai row.length ci).ownBlock → w'.ownsRow base 2 1 (.slice Ai row.length ci) row.length (ints row') → Grid w' base M v (rows.set i row') ∧ Below base w w' := by
  obtain ⟨b, c, Ai, ci, hv, hcell, ho, hup⟩ := h.mark hi
  refine ⟨b, c, Ai, ci, hv, hcell, ho, ?_, hup⟩
  obtain ⟨vs, h1, h2, h3, h4⟩ := h
  have hil : i < rows.length := (List.getElem?_eq_some_iff.1 hi).1
  have hu : vs[i]? = some (vs[i]'(by omega)) := List.getElem?_eq_getElem (by omega)
  rw [hv] at h2
  have hc := h2.cellAt i (by omega)
  rw [hcell, hu] at hc
  have he := Option.some.inj hc
  rw [he]
  exact (h3 i _ row hu hi).2
theorem eqPassing_same (A A' B B' : Option Addr) (n c c' m d d' : Nat) (p : Psg) (w : World) (hn : n ≤ 1099511627776) (hm : m ≤ 1099511627776) (k : Rd w w.heap.size 2 A n (ths p.1)) (k' : Rd w w.heap.size 2 A' n (ths p.1)) (j : Rd w w.heap.size 2 B m (ths p.2)) (j' : Rd w w.heap.size 2 B' m (ths p.2)) :
    Calls Try.prog 96 #[.agg #[.slice A n c, .slice B m d], .agg #[.slice A' n c', .slice B' m d']] w fun e w' => e = .returned (.bool true) ∧ Below w.heap.size w w' := by
  obtain ⟨W, hW⟩ : ∃ W, (w.alloc (Obj.cells #[.slice A n c, .slice B m d] 38)).alloc (Obj.cells #[.slice A' n c', .slice B' m d'] 38) = W := ⟨_, rfl⟩
  have hbW : Below w.heap.size w W := by rw [← hW]; exact (by repeat' (first | exact Below.refl _ _ | (with_reducible assumption) | (with_reducible refine Below.alloc ?_ ?_ _) | (with_reducible refine Below.setCell ?_ ?_ _) | (with_reducible refine Below.drew ?_) | (with_reducible refine below_drewN ?_ _) | (refine Below.trans ?_ (Below.mono (by assumption) ?_)) | (with_reducible exact Nat.le_refl _) | (with_reducible assumption) | (exact Below.size (by assumption)) | omega | go_size | (simp at *; omega)))
  have hC := eqPassThrowS_same A A' n c c' p.1 W hn ((k.below hbW (Nat.le_refl _)).more hbW.size) ((k'.below hbW (Nat.le_refl _)).more hbW.size)
  have hD := fun (w1 : World) (b : Below w.heap.size w w1) => eqPassThrowS_same B B' m d d' p.2 w1 hm ((j.below b (Nat.le_refl _)).more b.size) ((j'.below b (Nat.le_refl _)).more b.size)
  have hX := (Bx.new w 38 #[.slice A n c, .slice B m d]).alloc (Obj.cells #[.slice A' n c', .slice B' m d'] 38)
  have hY := Bx.new (w.alloc (Obj.cells #[.slice A n c, .slice B m d] 38)) 38 #[.slice A' n c', .slice B' m d']
  have hz : (w.alloc (Obj.cells #[.slice A n c, .slice B m d] 38)).heap.size = w.heap.size + 1 := by simp
  rw [hz] at hY
  rw [← hW] at hC hbW
  have hC := hid hC
  have HD := hid hD
  have HB := hid hbW
  clear k k' j j' hW hbW hD hz
  go_enter Try.func96, Try.ntmps96
  go_wp2_with fail
  refine hC.out.mono ?_
  rintro e w1 ⟨rfl, hb1⟩
  have hX1 := hX.below hb1 hX.lt
  have hY1 := hY.below hb1 hY.lt
  have hB1 := bchain HB.out hb1
  have a1 : w1.cell? ⟨w.heap.size, 1, none⟩ = some (.slice B m d) := hX1.cell 1
  have b1 : w1.cell? ⟨w.heap.size + 1, 1, none⟩ = some (.slice B' m d') := hY1.cell 1
  clear hC hb1 hX hY hX1 hY1
  go_wp2_with fail
  refine (HD.out w1 hB1).mono ?_
  rintro e w2 ⟨rfl, hb2⟩
  have hB2 := bchain hB1 hb2
  clear HD hb2 a1 b1
  go_wp2
  go_ret
  exact ⟨rfl, hB2⟩
end Go.Proofs.Ytkglkpohbckpcaa
