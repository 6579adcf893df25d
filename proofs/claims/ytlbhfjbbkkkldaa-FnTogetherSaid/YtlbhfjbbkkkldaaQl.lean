/- Contract of the reference's ExchangePasses, for drawing. -/
import Derived.Test.YtlbhfjbbkkkldaaQk
namespace Go.Proofs.Ytlbhfjbbkkkldaa
open Go.RowKit
set_option linter.unusedVariables false

/-- A throw is written into one of two rows, which may even share their block: both stay rows of throws. -/
theorem own_poke {w : World} {B n c d gA gB : Nat} {a b : List PT} (hA : w.ownsRow B 94 2 (.slice (some ⟨gA, 0, none⟩) n c) n (ths a)) (hB : w.ownsRow B 94 2 (.slice (some ⟨gB, 0, none⟩) n d) n (ths b)) (i : Nat) (v : Int) (x : Bool) :
    ∃ a' b' : List PT, ((w.setCell ⟨gA, i * 2, none⟩ (.int .i64 v)).setCell ⟨gA, i * 2 + 1, none⟩ (.bool x)).ownsRow B 94 2 (.slice (some ⟨gA, 0, none⟩) n c) n (ths a') ∧ ((w.setCell ⟨gA, i * 2, none⟩ (.int .i64 v)).setCell ⟨gA, i * 2 + 1, none⟩ (.bool x)).ownsRow B 94 2 (.slice (some ⟨gB, 0, none⟩) n d) n (ths b') := by
  obtain ⟨h1, k1⟩ := hA.stored (i * 2) (.int .i64 v)
  rw [ths_set0] at h1
  obtain ⟨h2, k2⟩ := h1.stored (i * 2 + 1) (.bool x)
  rw [ths_set1] at h2
  by_cases hg : gB = gA
  · subst hg
    obtain ⟨j1, _⟩ := hB.stored (i * 2) (.int .i64 v)
    rw [ths_set0] at j1
    obtain ⟨j2, _⟩ := j1.stored (i * 2 + 1) (.bool x)
    rw [ths_set1] at j2
    exact ⟨_, _, h2, j2⟩
  · refine ⟨_, b, h2, ?_⟩
    exact (hB.kept k1 (.inr (by simp [Value.ownBlock]; exact hg))).kept k2 (.inr (by simp [Value.ownBlock]; exact hg))
/-- The cells of a throw in a row of the call's own. -/
theorem own_at {w : World} {B n c g i : Nat} {a : List PT} (h : w.ownsRow B 94 2 (.slice (some ⟨g, 0, none⟩) n c) n (ths a)) (hi : i < n) :
    ∃ x : PT, w.cell? ⟨g, i * 2, none⟩ = some (.int .i64 x.1) ∧ w.cell? ⟨g, i * 2 + 1, none⟩ = some (.bool x.2) ∧ w.frozen? ⟨g, i * 2, none⟩ = false ∧ w.frozen? ⟨g, i * 2 + 1, none⟩ = false := by
  have hl : a.length = n := by have := h.1; rw [ths_len] at this; omega
  obtain ⟨x, hx⟩ : ∃ x, a[i]? = some x := ⟨_, List.getElem?_eq_getElem (by omega)⟩
  obtain ⟨c0, c1⟩ := ths_at hx
  refine ⟨x, ?_, ?_, h.frozenAt _, h.frozenAt _⟩
  · rw [h.cellAt _ (by omega)]; exact c0
  · rw [h.cellAt _ (by omega)]; exact c1
/-- A pattern of the call's own of n beats, and a code 0; or nothing, and another code. -/
def ExRes (B n : Nat) (e : Ending) (w : World) : Prop := (∃ x : Int, x ≠ 0 ∧ e = .returned (.tuple #[.agg #[.slice none 0 0, .slice none 0 0], .int .i64 x])) ∨ (∃ gA cA gB cB, ∃ a b : List PT, e = .returned (.tuple #[.agg #[.slice (some ⟨gA, 0, none⟩) n cA, .slice (some ⟨gB, 0, none⟩) n cB], .int .i64 0]) ∧ w.ownsRow B 94 2 (.slice (some ⟨gA, 0, none⟩) n cA) n (ths a) ∧ w.ownsRow B 94 2 (.slice (some ⟨gB, 0, none⟩) n cB) n (ths b))
theorem ExRes.no {B n : Nat} {w : World} {x : Int} (h : x ≠ 0) : ExRes B n (.returned (.tuple #[.agg #[.slice none 0 0, .slice none 0 0], .int .i64 x])) w := .inl ⟨x, h, rfl⟩
/-- Amid the exchange: the copy's rows, its box, the boxes of the two throws and of the result. -/
def ExMid (w wx : World) (gA cA gB cB n g8 g6 : Nat) (a1 b1 : Int) (a2 b2 : Bool) : Prop :=
  ∃ a b : List PT, wx.ownsRow (w.heap.size + 2) 94 2 (.slice (some ⟨gA, 0, none⟩) n cA) n (ths a) ∧ wx.ownsRow (w.heap.size + 2) 94 2 (.slice (some ⟨gB, 0, none⟩) n cB) n (ths b) ∧ Bx wx g8 35 #[.slice (some ⟨gA, 0, none⟩) n cA, .slice (some ⟨gB, 0, none⟩) n cB] ∧ Bx wx g6 94 #[.int .i64 a1, .bool a2] ∧ Bx wx (g6 + 1) 94 #[.int .i64 b1, .bool b2] ∧ Bx wx (w.heap.size + 1) 35 #[.slice none 0 0, .slice none 0 0] ∧ Below w.heap.size w wx ∧ g6 + 1 < gA ∧ g6 + 1 < gB ∧ gA < g8 ∧ gB < g8
set_option maxRecDepth 100000 in
set_option maxHeartbeats 8000000 in
theorem specExchange_any (A B : Option Addr) (n c d k : Nat) (p : Psg) (w : World) (hn0 : 1 ≤ n) (hn : n ≤ 100) (hk : k < n) (hr : Rd w w.heap.size 2 A n (ths p.1)) (hs : Rd w w.heap.size 2 B n (ths p.2)) :
    Calls Try.prog 147 #[.agg #[.slice A n c, .slice B n d], .int .i64 (k : Int)] w fun e w' => ExRes w.heap.size n e w' ∧ Below w.heap.size w w' := by
  obtain ⟨W, hW⟩ : ∃ W, (w.alloc (Obj.cells #[.slice A n c, .slice B n d] 35)).alloc (Obj.cells #[.slice none 0 0, .slice none 0 0] 35) = W := ⟨_, rfl⟩
  have hbW : Below w.heap.size w W := by rw [← hW]; exact (by repeat' (first | exact Below.refl _ _ | (with_reducible assumption) | (with_reducible refine Below.alloc ?_ ?_ _) | (with_reducible refine Below.setCell ?_ ?_ _) | (with_reducible refine Below.drew ?_) | (with_reducible refine below_drewN ?_ _) | (refine Below.trans ?_ (Below.mono (by assumption) ?_)) | (with_reducible exact Nat.le_refl _) | (with_reducible assumption) | (exact Below.size (by assumption)) | omega | go_size | (simp at *; omega)))
  have hX : Bx W w.heap.size 35 #[.slice A n c, .slice B n d] := by rw [← hW]; exact (bx_at rfl).alloc _
  have hY : Bx W (w.heap.size + 1) 35 #[.slice none 0 0, .slice none 0 0] := by rw [← hW]; exact bx_at (by simp)
  have hV := l06Ok_any w.heap.size A B n c n d p W (by omega) (by omega) hX ((hr.below hbW (Nat.le_refl _)).more hbW.size) ((hs.below hbW (Nat.le_refl _)).more hbW.size)
  have hWz : w.heap.size + 2 = W.heap.size := by rw [← hW]; simp
  have hI := hid (fun w1 => l00In_any (k : Int) 0 ((n : Int) - 1) w1)
  rw [show betweenB (k : Int) 0 ((n : Int) - 1) = true by rw [betweenB_iff]; omega] at hI
  obtain ⟨ba, offa, rfl, hba, _⟩ := hr.2 (by omega)
  obtain ⟨bb, offb, rfl, hbb, _⟩ := hs.2 (by omega)
  obtain ⟨vb, hvb⟩ : ∃ vb, psOk p = vb := ⟨_, rfl⟩
  rw [hvb, ← hW] at hV
  have hV := hid hV
  have HR := hid hr
  have HS := hid hs
  have HX := hid hX
  have HY := hid hY
  have HBW := hid hbW
  have HW := hid hW
  clear hvb hX hY hbW hr hs hW
  go_enter Try.func147, Try.ntmps147
  go_wp2_with fail
  refine hV.out.mono ?_
  rw [HW.out]
  rintro e w1 ⟨rfl, hb1⟩
  have z1 := hb1.size
  have hX1 := HX.out.below hb1 (by omega)
  have hY1 := HY.out.below hb1 (by omega)
  have hB1 : Below w.heap.size w w1 := HBW.out.trans (hb1.mono (by omega))
  have x0 : w1.cell? ⟨w.heap.size, 0, none⟩ = some (.slice (some ⟨ba, offa, none⟩) n c) := hX1.cell 0
  have x1 : w1.cell? ⟨w.heap.size, 1, none⟩ = some (.slice (some ⟨bb, offb, none⟩) n d) := hX1.cell 1
  have y0 : w1.cell? ⟨w.heap.size + 1, 0, none⟩ = some (.slice none 0 0) := hY1.cell 0
  have y1 : w1.cell? ⟨w.heap.size + 1, 1, none⟩ = some (.slice none 0 0) := hY1.cell 1
  have g0 := hY1.frozen 0
  have g1 := hY1.frozen 1
  have hl0 : w.heap.size < w1.heap.size := by omega
  have hl1 : w.heap.size + 1 < w1.heap.size := by omega
  clear hV
  cases vb
  · clear HX HY HBW HW
    go_wp2
    refine bodyPost_ret (v := .tuple #[.agg #[.slice none 0 0, .slice none 0 0], .int .i64 1]) ?_ rfl ?_
    · simp (maxDischargeDepth := 8) [results, Try.results147, go_sem, *]
    exact ⟨ExRes.no (by decide), (by repeat' (first | exact Below.refl _ _ | (with_reducible assumption) | (with_reducible refine Below.alloc ?_ ?_ _) | (with_reducible refine Below.setCell ?_ ?_ _) | (with_reducible refine Below.drew ?_) | (with_reducible refine below_drewN ?_ _) | (refine Below.trans ?_ (Below.mono (by assumption) ?_)) | (with_reducible exact Nat.le_refl _) | (with_reducible assumption) | (exact Below.size (by assumption)) | omega | go_size | (simp at *; omega)))⟩
  · obtain ⟨_, _, xa, e1, _, hxa, _, ca0, ca1⟩ := (HR.out.below hB1 (Nat.le_refl _)).th_at hk
    obtain ⟨_, _, xb, e2, _, hxb, _, cb0, cb1⟩ := (HS.out.below hB1 (Nat.le_refl _)).th_at hk
    injection e1 with e1
    injection e1 with e1 e3
    subst e1 e3
    injection e2 with e2
    injection e2 with e2 e4
    subst e2 e4
    obtain ⟨a1, a2⟩ := xa
    obtain ⟨b1, b2⟩ := xb
    simp only at ca0 ca1 cb0 cb1
    have hba1 : ba < w1.heap.size := by omega
    have hbb1 : bb < w1.heap.size := by omega
    have hki : (k : Int) < (n : Int) := by omega
    have hk0 : (0 : Int) ≤ (k : Int) := by omega
    clear hxa hxb
    by_cases ha0 : a1 = 0
    · subst ha0
      go_wp2_with (go_at_call 95; refine (hI.out _).mono ?_; rintro e w' ⟨rfl, rfl⟩)
      refine bodyPost_ret (v := .tuple #[.agg #[.slice none 0 0, .slice none 0 0], .int .i64 6]) ?_ rfl ?_
      · simp (maxDischargeDepth := 8) [results, Try.results147, go_sem, *]
      exact ⟨ExRes.no (by decide), (by repeat' (first | exact Below.refl _ _ | (with_reducible assumption) | (with_reducible refine Below.alloc ?_ ?_ _) | (with_reducible refine Below.setCell ?_ ?_ _) | (with_reducible refine Below.drew ?_) | (with_reducible refine below_drewN ?_ _) | (refine Below.trans ?_ (Below.mono (by assumption) ?_)) | (with_reducible exact Nat.le_refl _) | (with_reducible assumption) | (exact Below.size (by assumption)) | omega | go_size | (simp at *; omega)))⟩
    · have hqa : (a1 == 0) = false := by simpa using ha0
      by_cases hb0 : b1 = 0
      · subst hb0
        go_wp2_with (go_at_call 95; refine (hI.out _).mono ?_; rintro e w' ⟨rfl, rfl⟩)
        refine bodyPost_ret (v := .tuple #[.agg #[.slice none 0 0, .slice none 0 0], .int .i64 6]) ?_ rfl ?_
        · simp (maxDischargeDepth := 8) [results, Try.results147, go_sem, *]
        exact ⟨ExRes.no (by decide), (by repeat' (first | exact Below.refl _ _ | (with_reducible assumption) | (with_reducible refine Below.alloc ?_ ?_ _) | (with_reducible refine Below.setCell ?_ ?_ _) | (with_reducible refine Below.drew ?_) | (with_reducible refine below_drewN ?_ _) | (refine Below.trans ?_ (Below.mono (by assumption) ?_)) | (with_reducible exact Nat.le_refl _) | (with_reducible assumption) | (exact Below.size (by assumption)) | omega | go_size | (simp at *; omega)))⟩
      · have hqb : (b1 == 0) = false := by simpa using hb0
        obtain ⟨W2, hW2⟩ : ∃ W2, (w1.alloc (Obj.cells #[.int .i64 a1, .bool a2] 94)).alloc (Obj.cells #[.int .i64 b1, .bool b2] 94) = W2 := ⟨_, rfl⟩
        have hbW2 : Below w1.heap.size w1 W2 := by rw [← hW2]; exact (by repeat' (first | exact Below.refl _ _ | (with_reducible assumption) | (with_reducible refine Below.alloc ?_ ?_ _) | (with_reducible refine Below.setCell ?_ ?_ _) | (with_reducible refine Below.drew ?_) | (with_reducible refine below_drewN ?_ _) | (refine Below.trans ?_ (Below.mono (by assumption) ?_)) | (with_reducible exact Nat.le_refl _) | (with_reducible assumption) | (exact Below.size (by assumption)) | omega | go_size | (simp at *; omega)))
        have hB2 : Below w.heap.size w W2 := bchain hB1 hbW2
        have hW2z : w1.heap.size + 2 = W2.heap.size := by rw [← hW2]; simp
        have hPA : Bx W2 w1.heap.size 94 #[.int .i64 a1, .bool a2] := by rw [← hW2]; exact (bx_at rfl).alloc _
        have hPB : Bx W2 (w1.heap.size + 1) 94 #[.int .i64 b1, .bool b2] := by rw [← hW2]; exact bx_at (by simp)
        have hC := l06Own_any w.heap.size (some ⟨ba, offa, none⟩) (some ⟨bb, offb, none⟩) n c n d p W2 hn0 hn0 hn hn (hX1.below hbW2 hl0) ((HR.out.below hB2 (Nat.le_refl _)).more hB2.size) ((HS.out.below hB2 (Nat.le_refl _)).more hB2.size)
        rw [← hW2] at hC
        have hC := hid hC
        have HW2 := hid hW2
        have HY1 := hid hY1
        have HB2 := hid hB2
        have HPA := hid hPA
        have HPB := hid hPB
        have HBW2 := hid hbW2
        clear hW2 hY1 hX1 HX HY HBW HW hB2 hPA hPB hbW2 hb1 ha0 hb0
        go_wp2_with (first | (go_at_call 95; refine (hI.out _).mono ?_; rintro e w' ⟨rfl, rfl⟩) | fail)
        refine hC.out.mono ?_
        rw [HW2.out]
        rintro e w3 ⟨⟨gA, cA, gB, cB, rfl, ho1, ho2⟩, hb3⟩
        have z3 := hb3.size
        have hY3 := (HY1.out.below HBW2.out hl1).below hb3 (by omega)
        have hA3 := HPA.out.below hb3 (by omega)
        have hB3 := HPB.out.below hb3 (by omega)
        obtain ⟨lA1, lA2⟩ := ho1.lt gA rfl
        obtain ⟨lB1, lB2⟩ := ho2.lt gB rfl
        have hX4 : Bx (w3.alloc (Obj.cells #[.slice (some ⟨gA, 0, none⟩) n cA, .slice (some ⟨gB, 0, none⟩) n cB] 35)) w3.heap.size 35 #[.slice (some ⟨gA, 0, none⟩) n cA, .slice (some ⟨gB, 0, none⟩) n cB] := bx_at rfl
        obtain ⟨W4, hW4⟩ : ∃ W4, w3.alloc (Obj.cells #[.slice (some ⟨gA, 0, none⟩) n cA, .slice (some ⟨gB, 0, none⟩) n cB] 35) = W4 := ⟨_, rfl⟩
        have hZ : Hid (ExMid w W4 gA cA gB cB n w3.heap.size w1.heap.size a1 b1 a2 b2) := by
          rw [← hW4]
          have h0 : Below w.heap.size w w3 := HB2.out.trans (hb3.mono HB2.out.size)
          have h1 := HB2.out.size
          exact ⟨_, _, (own_more ho1 (by omega)).alloc _, (own_more ho2 (by omega)).alloc _, hX4, hA3.alloc _, hB3.alloc _, hY3.alloc _, h0.alloc h0.size _, by omega, by omega, lA2, lB2⟩
        rw [← hW4] at hZ
        clear hW4 hX4 HW2 hC HY1 HBW2 hY3 hA3 hB3 ho1 ho2 HPA HPB x0 x1 y0 y1 g0 g1 ca0 ca1 cb0 cb1 hb3 HB2
        go_upto_region 10 with fail
        obtain ⟨W4, hW4⟩ : ∃ W4, w3.alloc (Obj.cells #[.slice (some ⟨gA, 0, none⟩) n cA, .slice (some ⟨gB, 0, none⟩) n cB] 35) = W4 := ⟨_, rfl⟩
        rw [hW4] at hZ ⊢
        clear hW4
        go_cut [] (fun wx => Hid (ExMid w wx gA cA gB cB n w3.heap.size w1.heap.size a1 b1 a2 b2))
        case first =>
          obtain ⟨pa, pb, k1, k2, k3, k4, k5, k6, k7, k8, k9, k10, k11⟩ := hZ.out
          have c30 : W4.cell? ⟨w3.heap.size, 0, none⟩ = some (.slice (some ⟨gA, 0, none⟩) n cA) := k3.cell 0
          have c50 : W4.cell? ⟨w1.heap.size + 1, 0, none⟩ = some (.int .i64 b1) := k5.cell 0
          have c51 : W4.cell? ⟨w1.heap.size + 1, 1, none⟩ = some (.bool b2) := k5.cell 1
          obtain ⟨ua, s0, s1, s2, s3⟩ := own_at k1 hk
          have hlo := (k1.lt gA rfl).1
          obtain ⟨a', b', hp1, hp2⟩ := own_poke k1 k2 k b1 (!b2)
          have HM : Hid (ExMid w ((W4.setCell ⟨gA, k * 2, none⟩ (.int .i64 b1)).setCell ⟨gA, k * 2 + 1, none⟩ (.bool (!b2))) gA cA gB cB n w3.heap.size w1.heap.size a1 b1 a2 b2) :=
            ⟨a', b', hp1, hp2, (k3.far (p := ⟨gA, k * 2, none⟩) (by show w3.heap.size ≠ gA; omega) _).far (p := ⟨gA, k * 2 + 1, none⟩) (by show w3.heap.size ≠ gA; omega) _, (k4.far (p := ⟨gA, k * 2, none⟩) (by show w1.heap.size ≠ gA; omega) _).far (p := ⟨gA, k * 2 + 1, none⟩) (by show w1.heap.size ≠ gA; omega) _, (k5.far (p := ⟨gA, k * 2, none⟩) (by show w1.heap.size + 1 ≠ gA; omega) _).far (p := ⟨gA, k * 2 + 1, none⟩) (by show w1.heap.size + 1 ≠ gA; omega) _, (k6.far (p := ⟨gA, k * 2, none⟩) (by show w.heap.size + 1 ≠ gA; omega) _).far (p := ⟨gA, k * 2 + 1, none⟩) (by show w.heap.size + 1 ≠ gA; omega) _, (k7.setCell (by show w.heap.size ≤ gA; omega) _).setCell (by show w.heap.size ≤ gA; omega) _, k8, k9, k10, k11⟩
          clear hZ k1 k2 k3 k4 k5 k6 k7 hp1 hp2
          go_wp2_with fail
          go_meet
          exact hid HM.out
        case rest =>
          clear hZ
          have hZ := hcut
          clear hcut
          go_upto_region 11 with fail
          go_cut [] (fun wx => Hid (ExMid w wx gA cA gB cB n w3.heap.size w1.heap.size a1 b1 a2 b2))
          case first =>
            obtain ⟨pa, pb, k1, k2, k3, k4, k5, k6, k7, k8, k9, k10, k11⟩ := hZ.out
            obtain ⟨W5, rfl⟩ : ∃ W5 : World, W5 = wc := ⟨_, rfl⟩
            have c30 : W5.cell? ⟨w3.heap.size, 1, none⟩ = some (.slice (some ⟨gB, 0, none⟩) n cB) := k3.cell 1
            have c50 : W5.cell? ⟨w1.heap.size, 0, none⟩ = some (.int .i64 a1) := k4.cell 0
            have c51 : W5.cell? ⟨w1.heap.size, 1, none⟩ = some (.bool a2) := k4.cell 1
            obtain ⟨ua, s0, s1, s2, s3⟩ := own_at k2 hk
            have hlo := (k2.lt gB rfl).1
            obtain ⟨b', a', hp2, hp1⟩ := own_poke k2 k1 k a1 (!a2)
            have HM : Hid (ExMid w ((W5.setCell ⟨gB, k * 2, none⟩ (.int .i64 a1)).setCell ⟨gB, k * 2 + 1, none⟩ (.bool (!a2))) gA cA gB cB n w3.heap.size w1.heap.size a1 b1 a2 b2) :=
              ⟨a', b', hp1, hp2, (k3.far (p := ⟨gB, k * 2, none⟩) (by show w3.heap.size ≠ gB; omega) _).far (p := ⟨gB, k * 2 + 1, none⟩) (by show w3.heap.size ≠ gB; omega) _, (k4.far (p := ⟨gB, k * 2, none⟩) (by show w1.heap.size ≠ gB; omega) _).far (p := ⟨gB, k * 2 + 1, none⟩) (by show w1.heap.size ≠ gB; omega) _, (k5.far (p := ⟨gB, k * 2, none⟩) (by show w1.heap.size + 1 ≠ gB; omega) _).far (p := ⟨gB, k * 2 + 1, none⟩) (by show w1.heap.size + 1 ≠ gB; omega) _, (k6.far (p := ⟨gB, k * 2, none⟩) (by show w.heap.size + 1 ≠ gB; omega) _).far (p := ⟨gB, k * 2 + 1, none⟩) (by show w.heap.size + 1 ≠ gB; omega) _, (k7.setCell (by show w.heap.size ≤ gB; omega) _).setCell (by show w.heap.size ≤ gB; omega) _, k8, k9, k10, k11⟩
            clear hZ k1 k2 k3 k4 k5 k6 k7 hp1 hp2
            go_wp2_with fail
            go_meet
            exact hid HM.out
          case rest =>
            clear hZ
            obtain ⟨W6, rfl⟩ : ∃ W6 : World, W6 = wc := ⟨_, rfl⟩
            obtain ⟨pa, pb, k1, k2, k3, k4, k5, k6, k7, k8, k9, k10, k11⟩ := hcut.out
            clear hcut
            have c30 : W6.cell? ⟨w3.heap.size, 0, none⟩ = some (.slice (some ⟨gA, 0, none⟩) n cA) := k3.cell 0
            have c31 : W6.cell? ⟨w3.heap.size, 1, none⟩ = some (.slice (some ⟨gB, 0, none⟩) n cB) := k3.cell 1
            have y0 : W6.cell? ⟨w.heap.size + 1, 0, none⟩ = some (.slice none 0 0) := k6.cell 0
            have y1 : W6.cell? ⟨w.heap.size + 1, 1, none⟩ = some (.slice none 0 0) := k6.cell 1
            have y2 := k6.frozen 0
            have y3 := k6.frozen 1
            have HQ1 := hid k1
            have HQ2 := hid k2
            have HB := hid k7
            clear k1 k2 k3 k4 k5 k6 k7
            go_wp2
            refine bodyPost_ret (v := .tuple #[.agg #[.slice (some ⟨gA, 0, none⟩) n cA, .slice (some ⟨gB, 0, none⟩) n cB], .int .i64 0]) ?_ rfl ?_
            · simp (maxDischargeDepth := 8) [results, Try.results147, go_sem, *]
            refine ⟨.inr ⟨gA, cA, gB, cB, pa, pb, rfl, own_more (own_setq (own_setq HQ1.out (p := ⟨w.heap.size + 1, 0, none⟩) (by show w.heap.size + 1 < _; omega) _) (p := ⟨w.heap.size + 1, 1, none⟩) (by show w.heap.size + 1 < _; omega) _) (by omega), own_more (own_setq (own_setq HQ2.out (p := ⟨w.heap.size + 1, 0, none⟩) (by show w.heap.size + 1 < _; omega) _) (p := ⟨w.heap.size + 1, 1, none⟩) (by show w.heap.size + 1 < _; omega) _) (by omega)⟩, ?_⟩
            exact (HB.out.setCell (p := ⟨w.heap.size + 1, 0, none⟩) (by show w.heap.size ≤ w.heap.size + 1; omega) _).setCell (by show w.heap.size ≤ w.heap.size + 1; omega) _
end Go.Proofs.Ytlbhfjbbkkkldaa
