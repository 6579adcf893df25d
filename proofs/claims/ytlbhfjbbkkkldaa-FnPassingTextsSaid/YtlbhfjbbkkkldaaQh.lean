/- Contracts of the reference's ReadPassing. -/
import Derived.Test.YtlbhfjbbkkkldaaQg
namespace Go.Proofs.Ytlbhfjbbkkkldaa
open Go.RowKit
set_option linter.unusedVariables false

set_option maxRecDepth 100000 in
set_option maxHeartbeats 4000000 in
theorem specReadPassing_any (s : ByteArray) (w : World) (hs : s.size ≤ 1099511627775) :
    Calls Try.prog 21 #[.string s] w fun e w' => PaRes w.heap.size (rReadPassing (tl s)) e w' ∧ Below w.heap.size w w' := by
  have hC := l06Read_any s (w.alloc (Obj.cells #[.slice none 0 0, .slice none 0 0] 35)) hs
  have hX := Bx.new w 35 #[.slice none 0 0, .slice none 0 0]
  rw [rReadPassing]
  generalize rdPa (tl s) = r at *
  have hC := hid hC
  go_enter Try.func21, Try.ntmps21
  go_wp2_with fail
  refine hC.out.mono ?_
  rintro e w1 ⟨⟨⟨a, b⟩, ha9, hb9, ⟨A1, d1, A2, d2, hA1, hA2, rfl, ho1, ho2⟩, hr⟩, hb1⟩
  have hX1 := hX.below hb1 hX.lt
  have z1 := hb1.size
  have hgr : w.heap.size < w1.heap.size := by simp at z1; omega
  have hB1 : Below w.heap.size w w1 := (by repeat' (first | exact Below.refl _ _ | (with_reducible assumption) | (with_reducible refine Below.alloc ?_ ?_ _) | (with_reducible refine Below.setCell ?_ ?_ _) | (with_reducible refine Below.drew ?_) | (with_reducible refine below_drewN ?_ _) | (refine Below.trans ?_ (Below.mono (by assumption) ?_)) | (with_reducible exact Nat.le_refl _) | (with_reducible assumption) | (exact Below.size (by assumption)) | omega | go_size | (simp at *; omega)))
  have e0 := hX1.cell 0
  have e1 := hX1.cell 1
  have f0 := hX1.frozen 0
  have f1 := hX1.frozen 1
  replace e0 : w1.cell? ⟨w.heap.size, 0, none⟩ = some (.slice none 0 0) := e0
  replace e1 : w1.cell? ⟨w.heap.size, 1, none⟩ = some (.slice none 0 0) := e1
  simp only at ho1 ho2 ha9 hb9
  have hbs : (w.alloc (Obj.cells #[.slice none 0 0, .slice none 0 0] 35)).heap.size = w.heap.size + 1 := by simp
  rw [hbs] at ho1 ho2
  have HO1 := hid ho1
  have HO2 := hid ho2
  have HR := hid hr
  clear hC hX hb1 hX1 ho1 ho2 hr hbs z1
  cases r with
  | none =>
    go_wp2
    refine bodyPost_ret (v := .tuple #[.agg #[.slice none 0 0, .slice none 0 0], .bool false]) ?_ rfl ?_
    · simp (maxDischargeDepth := 8) [results, Try.results21, go_sem, *]
    exact ⟨PaRes.no _ _ _, (by repeat' (first | exact Below.refl _ _ | (with_reducible assumption) | (with_reducible refine Below.alloc ?_ ?_ _) | (with_reducible refine Below.setCell ?_ ?_ _) | (with_reducible refine Below.drew ?_) | (with_reducible refine below_drewN ?_ _) | (refine Below.trans ?_ (Below.mono (by assumption) ?_)) | (with_reducible exact Nat.le_refl _) | (with_reducible assumption) | (exact Below.size (by assumption)) | omega | go_size | (simp at *; omega)))⟩
  | some p1 =>
    have ep := HR.out p1 rfl
    subst ep
    obtain ⟨W, hW⟩ : ∃ W, w1.alloc (Obj.cells #[.slice A1 a.length d1, .slice A2 b.length d2] 35) = W := ⟨_, rfl⟩
    have hbW : Below w1.heap.size w1 W := by rw [← hW]; exact (by repeat' (first | exact Below.refl _ _ | (with_reducible assumption) | (with_reducible refine Below.alloc ?_ ?_ _) | (with_reducible refine Below.setCell ?_ ?_ _) | (with_reducible refine Below.drew ?_) | (with_reducible refine below_drewN ?_ _) | (refine Below.trans ?_ (Below.mono (by assumption) ?_)) | (with_reducible exact Nat.le_refl _) | (with_reducible assumption) | (exact Below.size (by assumption)) | omega | go_size | (simp at *; omega)))
    have hBX : Bx W w1.heap.size 35 #[.slice A1 a.length d1, .slice A2 b.length d2] := by rw [← hW]; exact Bx.new w1 _ _
    have hV := l06Ok_any w1.heap.size A1 A2 a.length d1 b.length d2 (a, b) W (by omega) (by omega) hBX (((Rd.of_own HO1.out).below hbW (Nat.le_refl _)).more hbW.size) (((Rd.of_own HO2.out).below hbW (Nat.le_refl _)).more hbW.size)
    obtain ⟨pb, hpb⟩ : ∃ pb, psOk (a, b) = pb := ⟨_, rfl⟩
    rw [hpb] at hV
    rw [← hW] at hV
    have HE := hid (psElse_some hpb)
    have hV := hid hV
    clear HR hW hbW hpb hBX
    go_wp2_with fail
    refine hV.out.mono ?_
    rintro e w2 ⟨rfl, hb2⟩
    have hB2 : Below w1.heap.size w1 w2 := (by repeat' (first | exact Below.refl _ _ | (with_reducible assumption) | (with_reducible refine Below.alloc ?_ ?_ _) | (with_reducible refine Below.setCell ?_ ?_ _) | (with_reducible refine Below.drew ?_) | (with_reducible refine below_drewN ?_ _) | (refine Below.trans ?_ (Below.mono (by assumption) ?_)) | (with_reducible exact Nat.le_refl _) | (with_reducible assumption) | (exact Below.size (by assumption)) | omega | go_size | (simp at *; omega)))
    have q0 := (hB2.cell (p := ⟨w.heap.size, 0, none⟩) hgr).trans e0
    have q1 := (hB2.cell (p := ⟨w.heap.size, 1, none⟩) hgr).trans e1
    have q2 := (hB2.frozen (p := ⟨w.heap.size, 0, none⟩) hgr).trans f0
    have q3 := (hB2.frozen (p := ⟨w.heap.size, 1, none⟩) hgr).trans f1
    have q4 : w2.cell? ⟨w1.heap.size, 0, none⟩ = some (.slice A1 a.length d1) := (hb2.cell (p := ⟨w1.heap.size, 0, none⟩) (by simp)).trans (by simp)
    have q5 : w2.cell? ⟨w1.heap.size, 1, none⟩ = some (.slice A2 b.length d2) := (hb2.cell (p := ⟨w1.heap.size, 1, none⟩) (by simp)).trans (by simp)
    clear hV hb2 e0 e1 f0 f1
    cases pb
    · go_wp2
      refine bodyPost_ret (v := .tuple #[.agg #[.slice none 0 0, .slice none 0 0], .bool false]) ?_ rfl ?_
      · simp (maxDischargeDepth := 8) [results, Try.results21, go_sem, *]
      exact ⟨by rw [HE.out]; exact PaRes.no _ _ _, (by repeat' (first | exact Below.refl _ _ | (with_reducible assumption) | (with_reducible refine Below.alloc ?_ ?_ _) | (with_reducible refine Below.setCell ?_ ?_ _) | (with_reducible refine Below.drew ?_) | (with_reducible refine below_drewN ?_ _) | (refine Below.trans ?_ (Below.mono (by assumption) ?_)) | (with_reducible exact Nat.le_refl _) | (with_reducible assumption) | (exact Below.size (by assumption)) | omega | go_size | (simp at *; omega)))⟩
    · go_wp2
      refine bodyPost_ret (v := .tuple #[.agg #[.slice A1 a.length d1, .slice A2 b.length d2], .bool true]) ?_ rfl ?_
      · simp (maxDischargeDepth := 8) [results, Try.results21, go_sem, *]
      refine ⟨?_, (by repeat' (first | exact Below.refl _ _ | (with_reducible assumption) | (with_reducible refine Below.alloc ?_ ?_ _) | (with_reducible refine Below.setCell ?_ ?_ _) | (with_reducible refine Below.drew ?_) | (with_reducible refine below_drewN ?_ _) | (refine Below.trans ?_ (Below.mono (by assumption) ?_)) | (with_reducible exact Nat.le_refl _) | (with_reducible assumption) | (exact Below.size (by assumption)) | omega | go_size | (simp at *; omega)))⟩
      rw [HE.out]
      exact PaRes.mk hA1 hA2 (own_more (own_set (own_set (own_below HO1.out hB2) (p := ⟨w.heap.size, 0, none⟩) (by show w.heap.size < _; omega) _) (p := ⟨w.heap.size, 1, none⟩) (by show w.heap.size < _; omega) _) (by omega)) (own_more (own_set (own_set (own_below HO2.out hB2) (p := ⟨w.heap.size, 0, none⟩) (by show w.heap.size < _; omega) _) (p := ⟨w.heap.size, 1, none⟩) (by show w.heap.size < _; omega) _) (by omega))
end Go.Proofs.Ytlbhfjbbkkkldaa
