/- The text: Wx. -/
import Derived.Test.YtgphkfnobmponaaGreatG41
import Derived.Test.YtgphkfnobmponaaGreatWu
/- ExchangePasses and l06Draw, with the bounds of the values. Printed by gen_l06b.py. -/
namespace Go.Proofs.YtgphkfnobmponaaGreat
open Go.RowKit
set_option linter.unusedVariables false


theorem qBd_set {q : List PT} {j : Nat} {b : PT} (h : qBd q) (hb : 0 ≤ b.1 ∧ b.1 ≤ 15) : qBd (q.set j b) := by
  intro x hx
  rcases List.mem_or_eq_of_mem_set hx with h1 | rfl
  · exact h x h1
  · exact hb
theorem qBd_poke {q : List PT} {j : Nat} {v : Int} {x : Bool} {f g : PT} (h : qBd q) (hv : 0 ≤ v ∧ v ≤ 15) (hf : f.1 = v) (hg : g.1 = ((q.set j f).getD j (0, false)).1) : qBd ((q.set j f).set j g) := by
  have h2 : qBd (q.set j f) := qBd_set h (by rw [hf]; exact hv)
  refine qBd_set h2 ?_
  rw [hg, List.getD_eq_getElem?_getD]
  cases hq : (q.set j f)[j]? with
  | none => exact ⟨by decide, by decide⟩
  | some y => exact h2 y (List.mem_of_getElem? hq)
theorem own_pokeB {w : World} {B n c d gA gB : Nat} {a b : List PT} (hA : w.ownsRow B 83 2 (.slice (some ⟨gA, 0, none⟩) n c) n (ths a)) (hB : w.ownsRow B 83 2 (.slice (some ⟨gB, 0, none⟩) n d) n (ths b)) (i : Nat) (v : Int) (x : Bool) (ha : qBd a) (hb : qBd b) (hv : 0 ≤ v ∧ v ≤ 15) :
    ∃ a' b' : List PT, ((w.setCell ⟨gA, i * 2, none⟩ (.int .i64 v)).setCell ⟨gA, i * 2 + 1, none⟩ (.bool x)).ownsRow B 83 2 (.slice (some ⟨gA, 0, none⟩) n c) n (ths a') ∧ ((w.setCell ⟨gA, i * 2, none⟩ (.int .i64 v)).setCell ⟨gA, i * 2 + 1, none⟩ (.bool x)).ownsRow B 83 2 (.slice (some ⟨gB, 0, none⟩) n d) n (ths b') ∧ qBd a' ∧ qBd b' := by
  obtain ⟨h1, k1⟩ := hA.stored (i * 2) (.int .i64 v)
  rw [ths_set0] at h1
  obtain ⟨h2, k2⟩ := h1.stored (i * 2 + 1) (.bool x)
  rw [ths_set1] at h2
  by_cases hg : gB = gA
  · subst hg
    obtain ⟨j1, _⟩ := hB.stored (i * 2) (.int .i64 v)
    rw [ths_set0] at j1
    obtain ⟨j2, _⟩ := j1.stored (i * 2 + 1) (.bool x)
    rw [ths_set1] at j2
    exact ⟨_, _, h2, j2, qBd_poke (v := v) (x := x) ha hv rfl rfl, qBd_poke (v := v) (x := x) hb hv rfl rfl⟩
  · refine ⟨_, b, h2, ?_, qBd_poke (v := v) (x := x) ha hv rfl rfl, hb⟩
    exact (hB.kept k1 (.inr (by simp [Value.ownBlock]; exact hg))).kept k2 (.inr (by simp [Value.ownBlock]; exact hg))
def ExResB (B n : Nat) (e : Ending) (w : World) : Prop := (∃ x : Int, x ≠ 0 ∧ e = .returned (.tuple #[.agg #[.slice none 0 0, .slice none 0 0], .int .i64 x])) ∨ (∃ gA cA gB cB, ∃ a b : List PT, e = .returned (.tuple #[.agg #[.slice (some ⟨gA, 0, none⟩) n cA, .slice (some ⟨gB, 0, none⟩) n cB], .int .i64 0]) ∧ w.ownsRow B 83 2 (.slice (some ⟨gA, 0, none⟩) n cA) n (ths a) ∧ w.ownsRow B 83 2 (.slice (some ⟨gB, 0, none⟩) n cB) n (ths b) ∧ qBd a ∧ qBd b)
theorem ExResB.no {B n : Nat} {w : World} {x : Int} (h : x ≠ 0) : ExResB B n (.returned (.tuple #[.agg #[.slice none 0 0, .slice none 0 0], .int .i64 x])) w := .inl ⟨x, h, rfl⟩
def ExMidB (w wx : World) (gA cA gB cB n g8 g6 : Nat) (a1 b1 : Int) (a2 b2 : Bool) : Prop :=
  ∃ a b : List PT, wx.ownsRow (w.heap.size + 2) 83 2 (.slice (some ⟨gA, 0, none⟩) n cA) n (ths a) ∧ wx.ownsRow (w.heap.size + 2) 83 2 (.slice (some ⟨gB, 0, none⟩) n cB) n (ths b) ∧ Bx wx g8 31 #[.slice (some ⟨gA, 0, none⟩) n cA, .slice (some ⟨gB, 0, none⟩) n cB] ∧ Bx wx g6 83 #[.int .i64 a1, .bool a2] ∧ Bx wx (g6 + 1) 83 #[.int .i64 b1, .bool b2] ∧ Bx wx (w.heap.size + 1) 31 #[.slice none 0 0, .slice none 0 0] ∧ Below w.heap.size w wx ∧ g6 + 1 < gA ∧ g6 + 1 < gB ∧ gA < g8 ∧ gB < g8 ∧ (qBd a ∧ qBd b)
set_option maxRecDepth 100000 in
set_option maxHeartbeats 8000000 in
theorem specExchangeB_any (A B : Option Addr) (n c d k : Nat) (p : Psg) (w : World) (hn0 : 1 ≤ n) (hn : n ≤ 100) (hk : k < n) (hq1 : qBd p.1) (hq2 : qBd p.2) (hr : Rd w w.heap.size 2 A n (ths p.1)) (hs : Rd w w.heap.size 2 B n (ths p.2)) :
    Calls Tryz.prog 130 #[.agg #[.slice A n c, .slice B n d], .int .i64 (k : Int)] w fun e w' => ExResB w.heap.size n e w' ∧ Below w.heap.size w w' := by
  obtain ⟨W, hW⟩ : ∃ W, (w.alloc (Obj.cells #[.slice A n c, .slice B n d] 31)).alloc (Obj.cells #[.slice none 0 0, .slice none 0 0] 31) = W := ⟨_, rfl⟩
  have hbW : Below w.heap.size w W := by rw [← hW]; exact (by repeat' (first | exact Below.refl _ _ | (with_reducible first | assumption | exact Nat.le_refl _ | refine Below.alloc ?_ ?_ _ | refine Below.setCell ?_ ?_ _ | refine Below.drew ?_ | refine below_drewN ?_ _) | refine Below.trans ?_ (Below.mono (by assumption) ?_) | exact Below.size (by assumption) | omega | go_size | (simp at *; omega)))
  have hX : Bx W w.heap.size 31 #[.slice A n c, .slice B n d] := by rw [← hW]; exact (bx_at rfl).alloc _
  have hY : Bx W (w.heap.size + 1) 31 #[.slice none 0 0, .slice none 0 0] := by rw [← hW]; exact bx_at (by simp)
  have hV := l06Ok_any w.heap.size A B n c n d p W (by omega) (by omega) hX ((hr.below hbW (Nat.le_refl _)).more hbW.size) ((hs.below hbW (Nat.le_refl _)).more hbW.size)
  have hWz : w.heap.size + 2 = W.heap.size := by rw [← hW]; simp
  have hI := hid (fun w1 => l00In_any (k : Int) 0 ((n : Int) - 1) w1)
  rw [show betweenB (k : Int) 0 ((n : Int) - 1) = true by rw [betweenB_iff]; omega] at hI
  obtain ⟨ba, offa, rfl, hba, _⟩ := hr.2 (by omega)
  obtain ⟨bb, offb, rfl, hbb, _⟩ := hs.2 (by omega)
  obtain ⟨vb, hvb⟩ : ∃ vb, psOk p = vb := ⟨_, rfl⟩
  rw [hvb, ← hW] at hV
  have hV := hid hV
  have HR := hid hr
  have HS := hid hs
  have HX := hid hX
  have HY := hid hY
  have HBW := hid hbW
  have HW := hid hW
  have HQP : Hid (qBd p.1 ∧ qBd p.2) := ⟨hq1, hq2⟩
  clear hvb hX hY hbW hr hs hW hq1 hq2
  go_enter Tryz.func130, Tryz.ntmps130
  go_wp2_with fail
  refine hV.out.mono ?_
  rw [HW.out]
  rintro e w1 ⟨rfl, hb1⟩
  have z1 := hb1.size
  have hX1 := HX.out.below hb1 (by omega)
  have hY1 := HY.out.below hb1 (by omega)
  have hB1 : Below w.heap.size w w1 := HBW.out.trans (hb1.mono (by omega))
  have x0 : w1.cell? ⟨w.heap.size, 0, none⟩ = some (.slice (some ⟨ba, offa, none⟩) n c) := hX1.cell 0
  have x1 : w1.cell? ⟨w.heap.size, 1, none⟩ = some (.slice (some ⟨bb, offb, none⟩) n d) := hX1.cell 1
  have y0 : w1.cell? ⟨w.heap.size + 1, 0, none⟩ = some (.slice none 0 0) := hY1.cell 0
  have y1 : w1.cell? ⟨w.heap.size + 1, 1, none⟩ = some (.slice none 0 0) := hY1.cell 1
  have g0 := hY1.frozen 0
  have g1 := hY1.frozen 1
  have hl0 : w.heap.size < w1.heap.size := by omega
  have hl1 : w.heap.size + 1 < w1.heap.size := by omega
  clear hV
  cases vb
  · clear HX HY HBW HW
    go_wp2
    refine bodyPost_ret (v := .tuple #[.agg #[.slice none 0 0, .slice none 0 0], .int .i64 1]) ?_ rfl ?_
    · simp (maxDischargeDepth := 8) [results, Tryz.results130, go_sem, *]
    exact ⟨ExResB.no (by decide), (by repeat' (first | exact Below.refl _ _ | (with_reducible first | assumption | exact Nat.le_refl _ | refine Below.alloc ?_ ?_ _ | refine Below.setCell ?_ ?_ _ | refine Below.drew ?_ | refine below_drewN ?_ _) | refine Below.trans ?_ (Below.mono (by assumption) ?_) | exact Below.size (by assumption) | omega | go_size | (simp at *; omega)))⟩
  · obtain ⟨_, _, xa, e1, _, hxa, _, ca0, ca1⟩ := (HR.out.below hB1 (Nat.le_refl _)).th_at hk
    obtain ⟨_, _, xb, e2, _, hxb, _, cb0, cb1⟩ := (HS.out.below hB1 (Nat.le_refl _)).th_at hk
    injection e1 with e1
    injection e1 with e1 e3
    subst e1 e3
    injection e2 with e2
    injection e2 with e2 e4
    subst e2 e4
    have ha1b := HQP.out.1 _ (List.mem_of_getElem? hxa)
    have hb1b := HQP.out.2 _ (List.mem_of_getElem? hxb)
    obtain ⟨a1, a2⟩ := xa
    obtain ⟨b1, b2⟩ := xb
    simp only at ca0 ca1 cb0 cb1 ha1b hb1b
    have HA1 := hid ha1b
    have HB1 := hid hb1b
    clear ha1b hb1b
    have hba1 : ba < w1.heap.size := by omega
    have hbb1 : bb < w1.heap.size := by omega
    have hki : (k : Int) < (n : Int) := by omega
    have hk0 : (0 : Int) ≤ (k : Int) := by omega
    clear hxa hxb
    by_cases ha0 : a1 = 0
    · subst ha0
      go_wp2_with (go_at_call 54; refine (hI.out _).mono ?_; rintro e w' ⟨rfl, rfl⟩)
      refine bodyPost_ret (v := .tuple #[.agg #[.slice none 0 0, .slice none 0 0], .int .i64 6]) ?_ rfl ?_
      · simp (maxDischargeDepth := 8) [results, Tryz.results130, go_sem, *]
      exact ⟨ExResB.no (by decide), (by repeat' (first | exact Below.refl _ _ | (with_reducible first | assumption | exact Nat.le_refl _ | refine Below.alloc ?_ ?_ _ | refine Below.setCell ?_ ?_ _ | refine Below.drew ?_ | refine below_drewN ?_ _) | refine Below.trans ?_ (Below.mono (by assumption) ?_) | exact Below.size (by assumption) | omega | go_size | (simp at *; omega)))⟩
    · have hqa : (a1 == 0) = false := by simpa using ha0
      by_cases hb0 : b1 = 0
      · subst hb0
        go_wp2_with (go_at_call 54; refine (hI.out _).mono ?_; rintro e w' ⟨rfl, rfl⟩)
        refine bodyPost_ret (v := .tuple #[.agg #[.slice none 0 0, .slice none 0 0], .int .i64 6]) ?_ rfl ?_
        · simp (maxDischargeDepth := 8) [results, Tryz.results130, go_sem, *]
        exact ⟨ExResB.no (by decide), (by repeat' (first | exact Below.refl _ _ | (with_reducible first | assumption | exact Nat.le_refl _ | refine Below.alloc ?_ ?_ _ | refine Below.setCell ?_ ?_ _ | refine Below.drew ?_ | refine below_drewN ?_ _) | refine Below.trans ?_ (Below.mono (by assumption) ?_) | exact Below.size (by assumption) | omega | go_size | (simp at *; omega)))⟩
      · have hqb : (b1 == 0) = false := by simpa using hb0
        obtain ⟨W2, hW2⟩ : ∃ W2, (w1.alloc (Obj.cells #[.int .i64 a1, .bool a2] 83)).alloc (Obj.cells #[.int .i64 b1, .bool b2] 83) = W2 := ⟨_, rfl⟩
        have hbW2 : Below w1.heap.size w1 W2 := by rw [← hW2]; exact (by repeat' (first | exact Below.refl _ _ | (with_reducible first | assumption | exact Nat.le_refl _ | refine Below.alloc ?_ ?_ _ | refine Below.setCell ?_ ?_ _ | refine Below.drew ?_ | refine below_drewN ?_ _) | refine Below.trans ?_ (Below.mono (by assumption) ?_) | exact Below.size (by assumption) | omega | go_size | (simp at *; omega)))
        have hB2 : Below w.heap.size w W2 := bchain hB1 hbW2
        have hW2z : w1.heap.size + 2 = W2.heap.size := by rw [← hW2]; simp
        have hPA : Bx W2 w1.heap.size 83 #[.int .i64 a1, .bool a2] := by rw [← hW2]; exact (bx_at rfl).alloc _
        have hPB : Bx W2 (w1.heap.size + 1) 83 #[.int .i64 b1, .bool b2] := by rw [← hW2]; exact bx_at (by simp)
        have hC := l06Own_any w.heap.size (some ⟨ba, offa, none⟩) (some ⟨bb, offb, none⟩) n c n d p W2 hn0 hn0 hn hn (hX1.below hbW2 hl0) ((HR.out.below hB2 (Nat.le_refl _)).more hB2.size) ((HS.out.below hB2 (Nat.le_refl _)).more hB2.size)
        rw [← hW2] at hC
        have hC := hid hC
        have HW2 := hid hW2
        have HY1 := hid hY1
        have HB2 := hid hB2
        have HPA := hid hPA
        have HPB := hid hPB
        have HBW2 := hid hbW2
        clear hW2 hY1 hX1 HX HY HBW HW hB2 hPA hPB hbW2 hb1 ha0 hb0
        go_wp2_with (first | (go_at_call 54; refine (hI.out _).mono ?_; rintro e w' ⟨rfl, rfl⟩) | fail)
        refine hC.out.mono ?_
        rw [HW2.out]
        rintro e w3 ⟨⟨gA, cA, gB, cB, rfl, ho1, ho2⟩, hb3⟩
        have z3 := hb3.size
        have hY3 := (HY1.out.below HBW2.out hl1).below hb3 (by omega)
        have hA3 := HPA.out.below hb3 (by omega)
        have hB3 := HPB.out.below hb3 (by omega)
        obtain ⟨lA1, lA2⟩ := ho1.lt gA rfl
        obtain ⟨lB1, lB2⟩ := ho2.lt gB rfl
        have hX4 : Bx (w3.alloc (Obj.cells #[.slice (some ⟨gA, 0, none⟩) n cA, .slice (some ⟨gB, 0, none⟩) n cB] 31)) w3.heap.size 31 #[.slice (some ⟨gA, 0, none⟩) n cA, .slice (some ⟨gB, 0, none⟩) n cB] := bx_at rfl
        obtain ⟨W4, hW4⟩ : ∃ W4, w3.alloc (Obj.cells #[.slice (some ⟨gA, 0, none⟩) n cA, .slice (some ⟨gB, 0, none⟩) n cB] 31) = W4 := ⟨_, rfl⟩
        have hZ : Hid (ExMidB w W4 gA cA gB cB n w3.heap.size w1.heap.size a1 b1 a2 b2) := by
          rw [← hW4]
          have h0 : Below w.heap.size w w3 := HB2.out.trans (hb3.mono HB2.out.size)
          have h1 := HB2.out.size
          exact ⟨_, _, (own_more ho1 (by omega)).alloc _, (own_more ho2 (by omega)).alloc _, hX4, hA3.alloc _, hB3.alloc _, hY3.alloc _, h0.alloc h0.size _, by omega, by omega, lA2, lB2, HQP.out⟩
        rw [← hW4] at hZ
        clear hW4 hX4 HW2 hC HY1 HBW2 hY3 hA3 hB3 ho1 ho2 HPA HPB x0 x1 y0 y1 g0 g1 ca0 ca1 cb0 cb1 hb3 HB2
        go_upto_region 10 with fail
        obtain ⟨W4, hW4⟩ : ∃ W4, w3.alloc (Obj.cells #[.slice (some ⟨gA, 0, none⟩) n cA, .slice (some ⟨gB, 0, none⟩) n cB] 31) = W4 := ⟨_, rfl⟩
        rw [hW4] at hZ ⊢
        clear hW4
        go_cut [] (fun wx => Hid (ExMidB w wx gA cA gB cB n w3.heap.size w1.heap.size a1 b1 a2 b2))
        case first =>
          obtain ⟨pa, pb, k1, k2, k3, k4, k5, k6, k7, k8, k9, k10, k11, k12⟩ := hZ.out
          have c30 : W4.cell? ⟨w3.heap.size, 0, none⟩ = some (.slice (some ⟨gA, 0, none⟩) n cA) := k3.cell 0
          have c50 : W4.cell? ⟨w1.heap.size + 1, 0, none⟩ = some (.int .i64 b1) := k5.cell 0
          have c51 : W4.cell? ⟨w1.heap.size + 1, 1, none⟩ = some (.bool b2) := k5.cell 1
          obtain ⟨ua, s0, s1, s2, s3⟩ := own_at k1 hk
          have hlo := (k1.lt gA rfl).1
          obtain ⟨a', b', hp1, hp2, hp3, hp4⟩ := own_pokeB k1 k2 k b1 (!b2) k12.1 k12.2 HB1.out
          have HM : Hid (ExMidB w ((W4.setCell ⟨gA, k * 2, none⟩ (.int .i64 b1)).setCell ⟨gA, k * 2 + 1, none⟩ (.bool (!b2))) gA cA gB cB n w3.heap.size w1.heap.size a1 b1 a2 b2) :=
            ⟨a', b', hp1, hp2, (k3.far (p := ⟨gA, k * 2, none⟩) (by show w3.heap.size ≠ gA; omega) _).far (p := ⟨gA, k * 2 + 1, none⟩) (by show w3.heap.size ≠ gA; omega) _, (k4.far (p := ⟨gA, k * 2, none⟩) (by show w1.heap.size ≠ gA; omega) _).far (p := ⟨gA, k * 2 + 1, none⟩) (by show w1.heap.size ≠ gA; omega) _, (k5.far (p := ⟨gA, k * 2, none⟩) (by show w1.heap.size + 1 ≠ gA; omega) _).far (p := ⟨gA, k * 2 + 1, none⟩) (by show w1.heap.size + 1 ≠ gA; omega) _, (k6.far (p := ⟨gA, k * 2, none⟩) (by show w.heap.size + 1 ≠ gA; omega) _).far (p := ⟨gA, k * 2 + 1, none⟩) (by show w.heap.size + 1 ≠ gA; omega) _, (k7.setCell (by show w.heap.size ≤ gA; omega) _).setCell (by show w.heap.size ≤ gA; omega) _, k8, k9, k10, k11, ⟨hp3, hp4⟩⟩
          clear hZ k1 k2 k3 k4 k5 k6 k7 k12 hp1 hp2 hp3 hp4
          go_wp2_with fail
          go_meet
          exact hid HM.out
        case rest =>
          clear hZ
          have hZ := hcut
          clear hcut
          go_upto_region 11 with fail
          go_cut [] (fun wx => Hid (ExMidB w wx gA cA gB cB n w3.heap.size w1.heap.size a1 b1 a2 b2))
          case first =>
            obtain ⟨pa, pb, k1, k2, k3, k4, k5, k6, k7, k8, k9, k10, k11, k12⟩ := hZ.out
            obtain ⟨W5, rfl⟩ : ∃ W5 : World, W5 = wc := ⟨_, rfl⟩
            have c30 : W5.cell? ⟨w3.heap.size, 1, none⟩ = some (.slice (some ⟨gB, 0, none⟩) n cB) := k3.cell 1
            have c50 : W5.cell? ⟨w1.heap.size, 0, none⟩ = some (.int .i64 a1) := k4.cell 0
            have c51 : W5.cell? ⟨w1.heap.size, 1, none⟩ = some (.bool a2) := k4.cell 1
            obtain ⟨ua, s0, s1, s2, s3⟩ := own_at k2 hk
            have hlo := (k2.lt gB rfl).1
            obtain ⟨b', a', hp2, hp1, hp4, hp3⟩ := own_pokeB k2 k1 k a1 (!a2) k12.2 k12.1 HA1.out
            have HM : Hid (ExMidB w ((W5.setCell ⟨gB, k * 2, none⟩ (.int .i64 a1)).setCell ⟨gB, k * 2 + 1, none⟩ (.bool (!a2))) gA cA gB cB n w3.heap.size w1.heap.size a1 b1 a2 b2) :=
              ⟨a', b', hp1, hp2, (k3.far (p := ⟨gB, k * 2, none⟩) (by show w3.heap.size ≠ gB; omega) _).far (p := ⟨gB, k * 2 + 1, none⟩) (by show w3.heap.size ≠ gB; omega) _, (k4.far (p := ⟨gB, k * 2, none⟩) (by show w1.heap.size ≠ gB; omega) _).far (p := ⟨gB, k * 2 + 1, none⟩) (by show w1.heap.size ≠ gB; omega) _, (k5.far (p := ⟨gB, k * 2, none⟩) (by show w1.heap.size + 1 ≠ gB; omega) _).far (p := ⟨gB, k * 2 + 1, none⟩) (by show w1.heap.size + 1 ≠ gB; omega) _, (k6.far (p := ⟨gB, k * 2, none⟩) (by show w.heap.size + 1 ≠ gB; omega) _).far (p := ⟨gB, k * 2 + 1, none⟩) (by show w.heap.size + 1 ≠ gB; omega) _, (k7.setCell (by show w.heap.size ≤ gB; omega) _).setCell (by show w.heap.size ≤ gB; omega) _, k8, k9, k10, k11, ⟨hp3, hp4⟩⟩
            clear hZ k1 k2 k3 k4 k5 k6 k7 k12 hp1 hp2 hp3 hp4
            go_wp2_with fail
            go_meet
            exact hid HM.out
          case rest =>
            clear hZ
            obtain ⟨W6, rfl⟩ : ∃ W6 : World, W6 = wc := ⟨_, rfl⟩
            obtain ⟨pa, pb, k1, k2, k3, k4, k5, k6, k7, k8, k9, k10, k11, k12⟩ := hcut.out
            clear hcut
            have c30 : W6.cell? ⟨w3.heap.size, 0, none⟩ = some (.slice (some ⟨gA, 0, none⟩) n cA) := k3.cell 0
            have c31 : W6.cell? ⟨w3.heap.size, 1, none⟩ = some (.slice (some ⟨gB, 0, none⟩) n cB) := k3.cell 1
            have y0 : W6.cell? ⟨w.heap.size + 1, 0, none⟩ = some (.slice none 0 0) := k6.cell 0
            have y1 : W6.cell? ⟨w.heap.size + 1, 1, none⟩ = some (.slice none 0 0) := k6.cell 1
            have y2 := k6.frozen 0
            have y3 := k6.frozen 1
            have HQ1 := hid k1
            have HQ2 := hid k2
            have HB := hid k7
            have HK12 := hid k12
            clear k1 k2 k3 k4 k5 k6 k7 k12
            go_wp2
            refine bodyPost_ret (v := .tuple #[.agg #[.slice (some ⟨gA, 0, none⟩) n cA, .slice (some ⟨gB, 0, none⟩) n cB], .int .i64 0]) ?_ rfl ?_
            · simp (maxDischargeDepth := 8) [results, Tryz.results130, go_sem, *]
            refine ⟨.inr ⟨gA, cA, gB, cB, pa, pb, rfl, own_more (own_setq (own_setq HQ1.out (p := ⟨w.heap.size + 1, 0, none⟩) (by show w.heap.size + 1 < _; omega) _) (p := ⟨w.heap.size + 1, 1, none⟩) (by show w.heap.size + 1 < _; omega) _) (by omega), own_more (own_setq (own_setq HQ2.out (p := ⟨w.heap.size + 1, 0, none⟩) (by show w.heap.size + 1 < _; omega) _) (p := ⟨w.heap.size + 1, 1, none⟩) (by show w.heap.size + 1 < _; omega) _) (by omega), HK12.out⟩, ?_⟩
            exact (HB.out.setCell (p := ⟨w.heap.size + 1, 0, none⟩) (by show w.heap.size ≤ w.heap.size + 1; omega) _).setCell (by show w.heap.size ≤ w.heap.size + 1; omega) _
/-- A drawn pattern: its rows are the call's own. -/
def PgAtB (B N : Nat) (w : World) (gA cA gB cB : Nat) : Prop := ∃ a b : List PT, (qBd a ∧ qBd b) ∧ w.ownsRow B 83 2 (.slice (some ⟨gA, 0, none⟩) N cA) N (ths a) ∧ w.ownsRow B 83 2 (.slice (some ⟨gB, 0, none⟩) N cB) N (ths b)
def PgRowB (B : Nat) (w : World) (e : Ending) : Prop := ∃ N gA cA gB cB, 1 ≤ N ∧ N ≤ 5 ∧ e = .returned (.agg #[.slice (some ⟨gA, 0, none⟩) N cA, .slice (some ⟨gB, 0, none⟩) N cB]) ∧ PgAtB B N w gA cA gB cB
theorem PgAtB.below {B N gA cA gB cB : Nat} {w w' : World} (h : PgAtB B N w gA cA gB cB) (hb : Below w.heap.size w w') : PgAtB B N w' gA cA gB cB := by
  obtain ⟨a, b, h0, h1, h2⟩ := h
  exact ⟨a, b, h0, own_below h1 hb, own_below h2 hb⟩
theorem PgAtB.low {B M N gA cA gB cB : Nat} {w w' : World} (h : PgAtB B N w gA cA gB cB) (hb : Below M w w') (hA : gA < M) (hB : gB < M) : PgAtB B N w' gA cA gB cB := by
  obtain ⟨a, b, h0, h1, h2⟩ := h
  refine ⟨a, b, h0, own_low h1 hb (fun g hg => ?_), own_low h2 hb (fun g hg => ?_)⟩
  · have e : gA = g := by simpa [Value.ownBlock] using hg
    omega
  · have e : gB = g := by simpa [Value.ownBlock] using hg
    omega
theorem PgAtB.ask {B N gA cA gB cB g m c K : Nat} {A : Option Addr} {zs : List Int} {w w' : World} (h : PgAtB B N w gA cA gB cB) (hs : Src w g A m c zs K) (hg : w.grownBy w' (some g)) : PgAtB B N w' gA cA gB cB := by
  obtain ⟨a, b, h0, h1, h2⟩ := h
  exact ⟨a, b, h0, own_askP h1 hs hg, own_askP h2 hs hg⟩
theorem PgAtB.more {B B' N gA cA gB cB : Nat} {w : World} (h : PgAtB B N w gA cA gB cB) (hB : B' ≤ B) : PgAtB B' N w gA cA gB cB := by
  obtain ⟨a, b, h0, h1, h2⟩ := h
  exact ⟨a, b, h0, own_more h1 hB, own_more h2 hB⟩
theorem PgAtB.setq {B N gA cA gB cB : Nat} {w : World} (h : PgAtB B N w gA cA gB cB) {p : Addr} (hp : p.block < B) (u : Value) : PgAtB B N (w.setCell p u) gA cA gB cB := by
  obtain ⟨a, b, h0, h1, h2⟩ := h
  exact ⟨a, b, h0, own_setq h1 hp u, own_setq h2 hp u⟩
theorem PgAtB.setb {B N gA cA gB cB g i : Nat} {w : World} {cs : Array Value} (h : PgAtB B N w gA cA gB cB) (hx : Bx w g 31 cs) (u : Value) : PgAtB B N (w.setCell ⟨g, i, none⟩ u) gA cA gB cB := by
  obtain ⟨a, b, h0, h1, h2⟩ := h
  exact ⟨a, b, h0, h1.kept (grown_set w g i u) (.inr (own_bne h1 hx (by decide))), h2.kept (grown_set w g i u) (.inr (own_bne h2 hx (by decide)))⟩
theorem PgAtB.lt {B N gA cA gB cB : Nat} {w : World} (h : PgAtB B N w gA cA gB cB) : (B ≤ gA ∧ gA < w.heap.size) ∧ (B ≤ gB ∧ gB < w.heap.size) := by
  obtain ⟨a, b, h0, h1, h2⟩ := h
  exact ⟨h1.lt gA rfl, h2.lt gB rfl⟩
theorem selfs_bd {xs : List Int} (h : ∀ x ∈ xs, 0 ≤ x ∧ x ≤ 15) : qBd (selfs xs) := by
  intro t ht
  obtain ⟨x, hx, rfl⟩ := List.mem_map.1 ht
  exact h x hx
set_option maxRecDepth 100000 in
set_option maxHeartbeats 4000000 in
theorem l06Draw_b (g : Nat) (A : Option Addr) (n c K : Nat) (xs : List Int) (w : World) (hK : K ≤ 90000) (h : Src w g A n c xs K) :
    Calls Tryz.prog 95 #[.pointer (some ⟨g, 0, none⟩)] w fun e w' => PgRowB w.heap.size w' e ∧ Src w' g A n c xs (K + 130) ∧ w.grownBy w' (some g) := by
  have hgl := h.lt
  have hX := Bx.new w 31 #[.slice none 0 0, .slice none 0 0]
  have hB0 : Below w.heap.size w (w.alloc (Obj.cells #[.slice none 0 0, .slice none 0 0] 31)) := (by repeat' (first | exact Below.refl _ _ | (with_reducible first | assumption | exact Nat.le_refl _ | refine Below.alloc ?_ ?_ _ | refine Below.setCell ?_ ?_ _ | refine Below.drew ?_ | refine below_drewN ?_ _) | refine Below.trans ?_ (Below.mono (by assumption) ?_) | exact Below.size (by assumption) | omega | go_size | (simp at *; omega)))
  have hs0 := h.below hB0 hgl
  have hg0 : w.grownBy (w.alloc (Obj.cells #[.slice none 0 0, .slice none 0 0] 31)) (some g) := grown_bl (World.grownBy.refl w (some g)) hB0 (Nat.le_refl _)
  have HS0 := hid hs0
  have HG0 := hid hg0
  clear h hs0 hg0 hB0
  go_enter Tryz.func95, Tryz.ntmps95
  go_wp2_with fail
  refine (pick_src g A n c K xs 5 _ (by omega) (by omega) HS0.out).mono ?_
  rintro e w1 ⟨⟨x, x0, x1, rfl⟩, hs1, hg1⟩
  have hgg1 := grown_trans HG0.out hg1
  have X1 := hid (hX.grown hg1 (by intro e; injection e with e; omega))
  have hz1 := hgg1.size
  obtain ⟨N, hN⟩ : ∃ N : Nat, 1 + x = (N : Int) := ⟨(1 + x).toNat, by omega⟩
  have hN1 : 1 ≤ N := by omega
  have hN2 : N ≤ 5 := by omega
  have HS1 := hid hs1
  have HG1 := hid hgg1
  clear HS0 HG0 hg1 hX hs1 hgg1
  go_wp2_with fail
  clear hN x0 x1
  refine (l04Site_src g A n c (K + 2) xs N _ (by omega) hN1 (by omega) HS1.out).mono ?_
  rintro e w2 ⟨v2, rfl, ⟨L, hL, ho2⟩, hs2, hg2⟩
  obtain ⟨A2, c2, rfl⟩ := own_form ho2
  have hgg2 := grown_trans HG1.out hg2
  have X2 := hid (X1.out.grown hg2 (by intro e; injection e with e; omega))
  have hz2 := hg2.size
  have HO2 := hid ho2
  have HS2 := hid hs2
  have HG2 := hid hgg2
  clear HS1 HG1 X1 hs2 hg2 hgg2 ho2
  go_wp2_with fail
  refine (l04Site_src g A n c (K + 2 + 50) xs N _ (by omega) hN1 (by omega) HS2.out).mono ?_
  rintro e w3 ⟨v3, rfl, ⟨L', hL', ho3⟩, hs3, hg3⟩
  obtain ⟨A3, c3, rfl⟩ := own_form ho3
  have hgg3 := grown_trans HG2.out hg3
  have X3 := hid (X2.out.grown hg3 (by intro e; injection e with e; omega))
  have hz3 := hg3.size
  have ho2 := own_ask HO2.out HS2.out hg3
  have hTG : Hid (rTogetherOf L L' = ((selfs L, selfs L'), 0)) := by
    show _ = _
    rw [rTogetherOf, hL.ok hN1 (by omega), hL'.ok hN1 (by omega)]
    simp only [Bool.and_self, if_true]
    rw [if_pos (by rw [hL.len, hL'.len]), if_pos (by rw [hL.len]; omega)]
  have hC := specTogetherOf_any A2 A3 L.length c2 L'.length c3 L L' w3 (by rw [hL.len]; omega) (by rw [hL'.len]; omega) (Rd.of_own ho2) (Rd.of_own ho3)
  rw [hTG.out] at hC
  have HC := hid hC
  have HLn := hid hL.len
  have HLm := hid hL'.len
  have HS3 := hid hs3
  have HG3 := hid hgg3
  have HQQ : Hid (qBd (selfs L) ∧ qBd (selfs L')) := ⟨selfs_bd hL.2.1, selfs_bd hL'.2.1⟩
  clear HS2 HG2 X2 hs3 hg3 hgg3 ho2 ho3 HO2 hTG hC hL hL'
  go_wp2_with fail
  refine HC.out.mono ?_
  rintro e w4 ⟨⟨A4, c4, B4, d4, hA4, hB4, rfl, ho4, hq4, _⟩, hb4⟩
  simp only [selfs_len, HLn.out, HLm.out] at ho4 hq4 ⊢
  obtain ⟨gA, cA, e1, _, _⟩ := own_block ho4 (by omega)
  obtain ⟨gB, cB, e2, _, _⟩ := own_block hq4 (by omega)
  injection e1 with e1 _ e3
  injection e2 with e2 _ e4
  subst e1 e2 e3 e4
  have hgg4 := grown_bl HG3.out hb4 (by omega)
  have hz4 := hgg4.size
  have hs4 := HS3.out.below hb4 (by omega)
  have X4 := X3.out.below hb4 X3.out.lt
  have M4 : PgAtB w.heap.size N w4 gA c4 gB d4 := ⟨_, _, HQQ.out, own_more ho4 (by omega), own_more hq4 (by omega)⟩
  have hx4 := X4.lt
  clear HC HS3 HG3 X3 hb4 ho4 hq4 hA4 hB4
  obtain ⟨W, hW⟩ : ∃ W, w4.alloc (Obj.cells #[.slice (some ⟨gA, 0, none⟩) N c4, .slice (some ⟨gB, 0, none⟩) N d4] 31) = W := ⟨_, rfl⟩
  have hbW : Below w4.heap.size w4 W := by rw [← hW]; exact (by repeat' (first | exact Below.refl _ _ | (with_reducible first | assumption | exact Nat.le_refl _ | refine Below.alloc ?_ ?_ _ | refine Below.setCell ?_ ?_ _ | refine Below.drew ?_ | refine below_drewN ?_ _) | refine Below.trans ?_ (Below.mono (by assumption) ?_) | exact Below.size (by assumption) | omega | go_size | (simp at *; omega)))
  have hZ : Hid (Src W g A n c xs (K + 2 + 50 + 50) ∧ w.grownBy W (some g) ∧ Bx W w.heap.size 31 #[.slice none 0 0, .slice none 0 0] ∧ Bx W w4.heap.size 31 #[.slice (some ⟨gA, 0, none⟩) N c4, .slice (some ⟨gB, 0, none⟩) N d4] ∧ PgAtB w.heap.size N W gA c4 gB d4) :=
    ⟨hs4.below hbW (by omega), grown_bl hgg4 hbW hz4, X4.below hbW X4.lt, by rw [← hW]; exact Bx.new _ _ _, M4.below hbW⟩
  rw [← hW] at hZ
  have HX4 := hid hx4
  clear hW hbW W hs4 hgg4 X4 M4
  obtain ⟨s5, g5, x5, y5, m5⟩ := hZ.out
  clear hZ
  go_wp2_with fail
  refine (pick_src g A n c (K + 2 + 50 + 50) xs 5 _ (by omega) (by omega) s5).mono ?_
  rintro e w6 ⟨⟨j, j0, j1, rfl⟩, hs6, hg6⟩
  obtain ⟨J, rfl⟩ := Int.eq_ofNat_of_zero_le j0
  have hJ : J ≤ 4 := by omega
  have hgg6 := grown_trans g5 hg6
  have X6 := hid (x5.grown hg6 (by intro e; injection e with e; omega))
  have Y6 := hid (y5.grown hg6 (by intro e; injection e with e; omega))
  have M6 := hid (m5.ask s5 hg6)
  clear s5 g5 x5 y5 m5 hg6 j1
  go_wp2
  go_loopw [6] (fun i wr => Hid (∃ (j : Nat) (K2 : Nat) (gA cA gB cB : Nat), i = .int .i64 j ∧ j ≤ 4 ∧ K2 + 2 * j ≤ K + 130 ∧ Src wr g A n c xs K2 ∧ w.grownBy wr (some g) ∧ Bx wr w.heap.size 31 #[.slice none 0 0, .slice none 0 0] ∧ Bx wr w4.heap.size 31 #[.slice (some ⟨gA, 0, none⟩) N cA, .slice (some ⟨gB, 0, none⟩) N cB] ∧ PgAtB w.heap.size N wr gA cA gB cB)) (fun i _ => (intOf i).toNat)
  case atStart => exact hid ⟨J, K + 2 + 50 + 50 + 2, gA, c4, gB, d4, rfl, hJ, by omega, hs6, hgg6, X6.out, Y6.out, M6.out⟩
  case round =>
    clear hs6 hgg6 X6 Y6 M6 hJ j0
    obtain ⟨j, K2, gA3, cA3, gB3, cB3, rfl, hj, hK2, hs, hgr, hX, hY, hM⟩ := hrel.out
    clear hrel
    have hzr := hgr.size
    have hzY := hY.lt
    have x0 := bx_p0 hX
    have x1 := bx_p1 hX
    have fx := hX.frozen 0
    have fx1 := hX.frozen 1
    have y0 := bx_p0 hY
    have y1 := bx_p1 hY
    have fy := hY.frozen 0
    have fy1 := hY.frozen 1
    by_cases hj0 : 0 < j
    · have hq1 : (0 : Int) < (j : Int) := by omega
      have HP := hid (fun (w' : World) (b1 : Below wr.heap.size wr w') => (pick_src g A n c K2 xs (N : Int) w' (by omega) (by omega) (hs.below b1 (by omega))).mono (fun e w'' h => show ∃ q : Nat, e = .returned (.int .i64 (q : Int)) ∧ q < N ∧ w''.cell? ⟨w4.heap.size, 0, none⟩ = some (.slice (some ⟨gA3, 0, none⟩) N cA3) ∧ w''.cell? ⟨w4.heap.size, 1, none⟩ = some (.slice (some ⟨gB3, 0, none⟩) N cB3) ∧ Src w'' g A n c xs (K2 + 2) ∧ wr.grownBy w'' (some g) ∧ w'.grownBy w'' (some g) by
        obtain ⟨⟨q, q0, q1, rfl⟩, k2, k3⟩ := h
        obtain ⟨q, rfl⟩ := Int.eq_ofNat_of_zero_le q0
        have hY2 := (hY.below b1 hY.lt).grown k3 (by intro e; injection e with e; omega)
        exact ⟨q, rfl, by omega, bx_p0 hY2, bx_p1 hY2, k2, grown_trans (grown_bl (World.grownBy.refl wr (some g)) b1 (Nat.le_refl _)) k3, k3⟩))
      have HXC := hid (fun (w5 : World) (q : Nat) (hq : q < N) (g5 : wr.grownBy w5 (some g)) (w' : World) (b1 : Below w5.heap.size w5 w') => (show ∀ a b : List PT, (qBd a ∧ qBd b) → wr.ownsRow w.heap.size 83 2 (.slice (some ⟨gA3, 0, none⟩) N cA3) N (ths a) → wr.ownsRow w.heap.size 83 2 (.slice (some ⟨gB3, 0, none⟩) N cB3) N (ths b) → Calls Tryz.prog 130 #[.agg #[.slice (some ⟨gA3, 0, none⟩) N cA3, .slice (some ⟨gB3, 0, none⟩) N cB3], .int .i64 (q : Int)] w' fun e w'' => ∃ A7 n7 c7 B7 m7 d7 x, e = .returned (.tuple #[.agg #[.slice A7 n7 c7, .slice B7 m7 d7], .int .i64 x]) ∧ Hid (x = 0 → ∃ gA gB, A7 = some ⟨gA, 0, none⟩ ∧ n7 = N ∧ B7 = some ⟨gB, 0, none⟩ ∧ m7 = N ∧ PgAtB w'.heap.size N w'' gA c7 gB d7) ∧ Below w'.heap.size w' w'' from fun a b hqq ha hb => (specExchangeB_any _ _ N cA3 cB3 q (a, b) w' hN1 (by omega) hq hqq.1 hqq.2 (((Rd.of_own (own_askP ha hs g5)).below b1 (Nat.le_refl _)).more b1.size) (((Rd.of_own (own_askP hb hs g5)).below b1 (Nat.le_refl _)).more b1.size)).mono fun e w'' h => by
        obtain ⟨h1 | h1, h2⟩ := h
        · obtain ⟨x, hx, rfl⟩ := h1
          exact ⟨_, _, _, _, _, _, x, rfl, fun h => absurd h hx, h2⟩
        · obtain ⟨gA, cA, gB, cB, a', b', rfl, o1, o2, o3, o4⟩ := h1
          exact ⟨_, _, _, _, _, _, 0, rfl, fun _ => ⟨gA, gB, rfl, rfl, rfl, rfl, a', b', ⟨o3, o4⟩, o1, o2⟩, h2⟩))
      have HEX : Hid (∀ (w5 : World) (q : Nat) (hq : q < N) (g5 : wr.grownBy w5 (some g)) (w' : World) (b1 : Below w5.heap.size w5 w'), Calls Tryz.prog 130 #[.agg #[.slice (some ⟨gA3, 0, none⟩) N cA3, .slice (some ⟨gB3, 0, none⟩) N cB3], .int .i64 (q : Int)] w' fun e w'' => ∃ A7 n7 c7 B7 m7 d7 x, e = .returned (.tuple #[.agg #[.slice A7 n7 c7, .slice B7 m7 d7], .int .i64 x]) ∧ Hid (x = 0 → ∃ gA gB, A7 = some ⟨gA, 0, none⟩ ∧ n7 = N ∧ B7 = some ⟨gB, 0, none⟩ ∧ m7 = N ∧ PgAtB w'.heap.size N w'' gA c7 gB d7) ∧ Below w'.heap.size w' w'') := by
        intro w5 q hq g5 w' b1
        obtain ⟨a, b, hqq, ha, hb⟩ := hM
        exact HXC.out w5 q hq g5 w' b1 a b hqq ha hb
      have HFIN := hid (fun (w5 w6 W : World) (h5 : Src w5 g A n c xs (K2 + 2)) (g5 : wr.grownBy w5 (some g)) (b6 : Below w5.heap.size w5 w6) (bW : Below wr.heap.size w6 W) => show Src W g A n c xs (K2 + 2) ∧ w.grownBy W (some g) ∧ Bx W w.heap.size 31 #[.slice none 0 0, .slice none 0 0] ∧ Bx W w4.heap.size 31 #[.slice (some ⟨gA3, 0, none⟩) N cA3, .slice (some ⟨gB3, 0, none⟩) N cB3] ∧ PgAtB w.heap.size N W gA3 cA3 gB3 cB3 from by
        have b5W : Below wr.heap.size w5 W := (b6.mono g5.size).trans bW
        have hgr0 : g < wr.heap.size := by omega
        have hl := hM.lt
        exact ⟨h5.below b5W hgr0, grown_bl (grown_trans hgr g5) b5W hzr, (hX.grown g5 (by intro e; injection e with e; omega)).below b5W (by omega), (hY.grown g5 (by intro e; injection e with e; omega)).below b5W (by omega), (hM.ask hs g5).low b5W hl.1.2 hl.2.2⟩)
      have HPY := hid (fun (w1 : World) (hg : wr.grownBy w1 (some g)) => show w1.cell? ⟨w4.heap.size, 0, none⟩ = some (.slice (some ⟨gA3, 0, none⟩) N cA3) ∧ w1.cell? ⟨w4.heap.size, 1, none⟩ = some (.slice (some ⟨gB3, 0, none⟩) N cB3) from by
        have := hY.grown hg (by intro e; injection e with e; omega)
        exact ⟨bx_p0 this, bx_p1 this⟩)
      have HNE : Hid (some wr.heap.size ≠ some g) := fun e => by injection e with e; omega
      clear hs hgr hX hY hM HXC
      go_wp2
      go_region_law (go_simp; go_wp2_with (first
        | (go_at_call 46; with_reducible refine (HP.out _ ?_).mono ?_; (exact (by repeat' (first | exact Below.refl _ _ | (with_reducible first | assumption | exact Nat.le_refl _ | refine Below.alloc ?_ ?_ _ | refine Below.setCell ?_ ?_ _ | refine Below.drew ?_ | refine below_drewN ?_ _) | refine Below.trans ?_ (Below.mono (by assumption) ?_) | exact Below.size (by assumption) | omega | go_size | (simp at *; omega)))); rintro e w5 ⟨q, rfl, hq, y50, y51, hs5, hg5, hk5⟩; have z5 := hg5.size; obtain ⟨y5a0, y5a1⟩ := HPY.out (w5.alloc (Obj.cells #[.slice none 0 0, .slice none 0 0] 31)) (grown_bl hg5 (Below.alloc (Below.refl _ _) (Nat.le_refl _) _) hg5.size); try (have X5 := hid (Bx.grown (show Bx _ wr.heap.size 31 #[.slice none 0 0, .slice none 0 0] by first | exact Bx.new _ _ _ | exact Bx.drew (Bx.new _ _ _)) hk5 HNE.out); have b50 := bx_p0 X5.out; have b51 := bx_p1 X5.out; have f50 := X5.out.frozen 0; have f51 := X5.out.frozen 1))
        | (go_at_call 130; with_reducible refine (HEX.out w5 q hq hg5 _ ?_).mono ?_; (exact (by repeat' (first | exact Below.refl _ _ | (with_reducible first | assumption | exact Nat.le_refl _ | refine Below.alloc ?_ ?_ _ | refine Below.setCell ?_ ?_ _ | refine Below.drew ?_ | refine below_drewN ?_ _) | refine Below.trans ?_ (Below.mono (by assumption) ?_) | exact Below.size (by assumption) | omega | go_size | (simp at *; omega)))); rintro e w6 ⟨A7, n7, c7, B7, m7, d7, x, rfl, hx7, hb6⟩; have hB6 := bchain (show Below w5.heap.size w5 _ by first | exact Below.refl _ _ | exact Below.alloc (Below.refl _ _) (Nat.le_refl _) _) hb6; have hGg6 := grown_bl hg5 hB6 z5; obtain ⟨y60, y61⟩ := HPY.out w6 hGg6; have z6 := hB6.size; obtain ⟨y6a0, y6a1⟩ := HPY.out (w6.alloc (Obj.cells #[.slice none 0 0, .slice none 0 0] 31)) (grown_bl hGg6 (Below.alloc (Below.refl _ _) (Nat.le_refl _) _) hGg6.size); (first | (have X6 := hid (X5.out.below hB6 X5.out.lt)) | (have X6 := hid (Bx.below (Bx.new w5 31 #[.slice none 0 0, .slice none 0 0]) hb6 (by simp))) | skip); try (have b60 := bx_p0 X6.out; have b61 := bx_p1 X6.out; have f60 := X6.out.frozen 0; have f61 := X6.out.frozen 1))))
      all_goals
        have bz6 : wr.heap.size ≤ w6.heap.size := by omega
        first
          | (obtain ⟨W, hW⟩ : ∃ W, w6.alloc (Obj.cells #[.slice A7 n7 c7, .slice B7 m7 d7] 31) = W := ⟨_, rfl⟩
             rw [hW]
             have bW : Below wr.heap.size w6 W := by rw [← hW]; exact (Below.refl _ _).alloc bz6 _
             have qW : Hid (x = 0 → ∃ gA gB, A7 = some ⟨gA, 0, none⟩ ∧ n7 = N ∧ B7 = some ⟨gB, 0, none⟩ ∧ m7 = N ∧ PgAtB w.heap.size N W gA c7 gB d7) := by
               rw [← hW]
               refine hid fun h => ?_
               obtain ⟨gA, gB, e1, e2, e3, e4, e5⟩ := hx7.out h
               exact ⟨gA, gB, e1, e2, e3, e4, (e5.below ((Below.refl _ _).alloc (Nat.le_refl _) _)).more (by first | omega | (simp; omega))⟩
             have nX : Bx W w6.heap.size 31 #[.slice A7 n7 c7, .slice B7 m7 d7] := by rw [← hW]; exact Bx.new _ _ _
             have nx0 := bx_p0 nX
             have nx1 := bx_p1 nX
             clear hW nX)
          | (obtain ⟨W, hW⟩ : ∃ W, (w6.setCell ⟨w5.heap.size, 0, none⟩ (.slice A7 n7 c7)).setCell ⟨w5.heap.size, 1, none⟩ (.slice B7 m7 d7) = W := ⟨_, rfl⟩
             rw [hW]
             have bW : Below wr.heap.size w6 W := by rw [← hW]; exact Below.setCell (Below.setCell (Below.refl _ _) (by show wr.heap.size ≤ w5.heap.size; omega) _) (by show wr.heap.size ≤ w5.heap.size; omega) _
             have qW : Hid (x = 0 → ∃ gA gB, A7 = some ⟨gA, 0, none⟩ ∧ n7 = N ∧ B7 = some ⟨gB, 0, none⟩ ∧ m7 = N ∧ PgAtB w.heap.size N W gA c7 gB d7) := by
               rw [← hW]
               refine hid fun h => ?_
               obtain ⟨gA, gB, e1, e2, e3, e4, e5⟩ := hx7.out h
               exact ⟨gA, gB, e1, e2, e3, e4, ((e5.setq (p := ⟨w5.heap.size, 0, none⟩) (by first | exact X5.out.lt | (simp; done) | (simp; omega) | (show w5.heap.size < _; omega)) _).setq (p := ⟨w5.heap.size, 1, none⟩) (by first | exact X5.out.lt | (simp; done) | (simp; omega) | (show w5.heap.size < _; omega)) _).more (by first | omega | (simp; omega))⟩
             have nX : Bx W w5.heap.size 31 #[.slice A7 n7 c7, .slice B7 m7 d7] := by rw [← hW]; exact (X6.out.set_ 0 _).set_ 1 _
             have nx0 := bx_p0 nX
             have nx1 := bx_p1 nX
             clear hW nX)
          | (obtain ⟨W, hW⟩ : ∃ W, (w6.setCell ⟨wr.heap.size, 0, none⟩ (.slice A7 n7 c7)).setCell ⟨wr.heap.size, 1, none⟩ (.slice B7 m7 d7) = W := ⟨_, rfl⟩
             rw [hW]
             have bW : Below wr.heap.size w6 W := by rw [← hW]; exact Below.setCell (Below.setCell (Below.refl _ _) (by show wr.heap.size ≤ wr.heap.size; omega) _) (by show wr.heap.size ≤ wr.heap.size; omega) _
             have qW : Hid (x = 0 → ∃ gA gB, A7 = some ⟨gA, 0, none⟩ ∧ n7 = N ∧ B7 = some ⟨gB, 0, none⟩ ∧ m7 = N ∧ PgAtB w.heap.size N W gA c7 gB d7) := by
               rw [← hW]
               refine hid fun h => ?_
               obtain ⟨gA, gB, e1, e2, e3, e4, e5⟩ := hx7.out h
               exact ⟨gA, gB, e1, e2, e3, e4, ((e5.setq (p := ⟨wr.heap.size, 0, none⟩) (by first | exact X5.out.lt | (simp; done) | (simp; omega) | (show wr.heap.size < _; omega)) _).setq (p := ⟨wr.heap.size, 1, none⟩) (by first | exact X5.out.lt | (simp; done) | (simp; omega) | (show wr.heap.size < _; omega)) _).more (by first | omega | (simp; omega))⟩
             have nX : Bx W wr.heap.size 31 #[.slice A7 n7 c7, .slice B7 m7 d7] := by rw [← hW]; exact (X6.out.set_ 0 _).set_ 1 _
             have nx0 := bx_p0 nX
             have nx1 := bx_p1 nX
             clear hW nX)
        obtain ⟨sW, gW, xW, yW, mW⟩ := HFIN.out w5 w6 W hs5 hg5 hB6 bW
        have cW0 := bx_p0 yW
        have cW1 := bx_p1 yW
        have fW := yW.frozen 0
        have fW1 := yW.frozen 1
        have zW := gW.size
        have hlW := yW.lt
        have hlX := HX4.out
        have HSW := hid sW
        have HGW := hid gW
        have HXW := hid xW
        have HYW := hid yW
        have HMW := hid mW
        clear sW gW xW yW mW hx7 hb6 hB6 hGg6 hs5 hg5 hk5 y50 y51 y5a0 y5a1 y60 y61 y6a0 y6a1 bW HP HEX HFIN HPY HNE
        by_cases hx0 : x = 0
        · subst hx0
          obtain ⟨gA7, gB7, e1, e2, e3, e4, e5⟩ := qW.out rfl
          replace e2 := e2.symm
          replace e4 := e4.symm
          subst e1 e3
          subst e2
          replace e4 := e4.symm
          subst e4
          have HZ1 := hid ((HSW.out.setp (p := ⟨w4.heap.size, 0, none⟩) (.slice (some ⟨gA7, 0, none⟩) m7 c7) (by show g < w4.heap.size; omega)).setp (p := ⟨w4.heap.size, 1, none⟩) (.slice (some ⟨gB7, 0, none⟩) m7 d7) (by show g < w4.heap.size; omega))
          have HZ2 : Hid (w.grownBy ((W.setCell ⟨w4.heap.size, 0, none⟩ (.slice (some ⟨gA7, 0, none⟩) m7 c7)).setCell ⟨w4.heap.size, 1, none⟩ (.slice (some ⟨gB7, 0, none⟩) m7 d7)) (some g)) := grown_bl HGW.out (Below.setCell (Below.setCell (Below.refl w4.heap.size _) (by show w4.heap.size ≤ w4.heap.size; exact Nat.le_refl _) _) (by show w4.heap.size ≤ w4.heap.size; exact Nat.le_refl _) _) (by show w.heap.size ≤ w4.heap.size; omega)
          have HZ3 := hid ((HXW.out.far (p := ⟨w4.heap.size, 0, none⟩) (by show w.heap.size ≠ w4.heap.size; omega) (.slice (some ⟨gA7, 0, none⟩) m7 c7)).far (p := ⟨w4.heap.size, 1, none⟩) (by show w.heap.size ≠ w4.heap.size; omega) (.slice (some ⟨gB7, 0, none⟩) m7 d7))
          have HZ4 := hid ((HYW.out.set_ 0 (.slice (some ⟨gA7, 0, none⟩) m7 c7)).set_ 1 (.slice (some ⟨gB7, 0, none⟩) m7 d7))
          have HZ5 := hid ((e5.setb HYW.out (i := 0) (.slice (some ⟨gA7, 0, none⟩) m7 c7)).setb (HYW.out.set_ 0 _) (i := 1) (.slice (some ⟨gB7, 0, none⟩) m7 d7))
          clear HSW HGW HXW HYW HMW qW e5
          go_wp2
          go_roundw
          case rel => exact hid ⟨j - 1, K2 + 2, gA7, c7, gB7, d7, by go_num, by omega, by omega, HZ1.out, HZ2.out, HZ3.out, HZ4.out, HZ5.out⟩
          case measure => simp [intOf]; omega
        · have hq2 : (x == 0) = false := by simpa using hx0
          clear qW
          go_wp2
          go_roundw
          case rel => exact hid ⟨j - 1, K2 + 2, gA3, cA3, gB3, cB3, by go_num, by omega, by omega, HSW.out, HGW.out, HXW.out, HYW.out, HMW.out⟩
          case measure => simp [intOf]; omega
    · have hq1 : ¬ (0 : Int) < (j : Int) := by omega
      have HS := hid (((hs.setp (p := ⟨w.heap.size, 0, none⟩) (.slice (some ⟨gA3, 0, none⟩) N cA3) hgl).setp (p := ⟨w.heap.size, 1, none⟩) (.slice (some ⟨gB3, 0, none⟩) N cB3) hgl).more (show K2 ≤ K + 130 by omega))
      have HGR : Hid (w.grownBy ((wr.setCell ⟨w.heap.size, 0, none⟩ (.slice (some ⟨gA3, 0, none⟩) N cA3)).setCell ⟨w.heap.size, 1, none⟩ (.slice (some ⟨gB3, 0, none⟩) N cB3)) (some g)) := grown_bl hgr (Below.setCell (Below.setCell (Below.refl w.heap.size _) (by show w.heap.size ≤ w.heap.size; exact Nat.le_refl _) _) (by show w.heap.size ≤ w.heap.size; exact Nat.le_refl _) _) (Nat.le_refl _)
      have HZ := hid ((hM.setb hX (i := 0) (.slice (some ⟨gA3, 0, none⟩) N cA3)).setb (hX.set_ 0 _) (i := 1) (.slice (some ⟨gB3, 0, none⟩) N cB3))
      clear hM hs hgr hX hY
      go_wp2
      refine bodyPost_ret (v := .agg #[.slice (some ⟨gA3, 0, none⟩) N cA3, .slice (some ⟨gB3, 0, none⟩) N cB3]) ?_ rfl ?_
      · simp (maxDischargeDepth := 8) [results, Tryz.results95, go_sem, *]
      exact ⟨⟨N, gA3, cA3, gB3, cB3, hN1, hN2, rfl, HZ.out⟩, HS.out, HGR.out⟩
end Go.Proofs.YtgphkfnobmponaaGreat
