/- Contract of the laws' own comparison of notations. -/
import Derived.Test.YtkglkpohbckpcaaNqa
import Derived.Test.YtkglkpohbckpcaaNn
namespace Go.Proofs.Ytkglkpohbckpcaa
open Go.RowKit
set_option linter.unusedVariables false

set_option maxRecDepth 100000 in
set_option maxHeartbeats 2000000 in
theorem eqNotation_same (k : Int) (p : List Int) (m : List (List Int)) (y : List Beat) (q1 q2 : List PT) (s t : Six) (w : World) (hs : NtSm (k, p, m, y, (q1, q2))) (h : NtRd (k, p, m, y, (q1, q2)) s w) (h' : NtRd (k, p, m, y, (q1, q2)) t w) :
    Calls Try.prog 17 #[.agg #[.int .i64 k, .slice s.A p.length s.c, .slice s.A2 m.length s.c2, .slice s.A3 y.length s.c3, .slice s.A4 q1.length s.c4, .slice s.A5 q2.length s.c5], .agg #[.int .i64 k, .slice t.A p.length t.c, .slice t.A2 m.length t.c2, .slice t.A3 y.length t.c3, .slice t.A4 q1.length t.c4, .slice t.A5 q2.length t.c5]] w fun e w' => e = .returned (.bool true) ∧ Below w.heap.size w w' := by
  obtain ⟨A, c, A2, c2, A3, c3, A4, c4, A5, c5⟩ := s
  obtain ⟨D, d, D2, d2, D3, d3, D4, d4, D5, d5⟩ := t
  obtain ⟨l1, ⟨l2, l3, _⟩, l4, l5, l6⟩ := hs
  simp only at l1 l2 l3 l4 l5 l6 ⊢
  have H := fun (w1 : World) (b : Below w.heap.size w w1) => h.below b
  have H' := fun (w1 : World) (b : Below w.heap.size w w1) => h'.below b
  unfold NtRd at H H'
  simp only at H H'
  have C1 := hid (fun (w1 : World) (b : Below w.heap.size w w1) => eqInt64S_same A D p.length c d p w1 (by omega) (H w1 b).1 (H' w1 b).1)
  have C2 := hid (fun (w1 : World) (b : Below w.heap.size w w1) => eqMulti_same A2 D2 m.length c2 d2 m w1 (by omega) (fun r hr => by have := l3 r hr; omega) (H w1 b).2.1 (H' w1 b).2.1)
  have C3 := hid (fun (w1 : World) (b : Below w.heap.size w w1) => eqSyncBeatS_same A3 D3 y.length c3 d3 y w1 (by omega) (H w1 b).2.2.1 (H' w1 b).2.2.1)
  have C4 := hid (fun (w1 : World) (b : Below w.heap.size w w1) => eqPassing_same A4 D4 A5 D5 q1.length c4 d4 q2.length c5 d5 (q1, q2) w1 (by omega) (by omega) (H w1 b).2.2.2.1 (H' w1 b).2.2.2.1 (H w1 b).2.2.2.2 (H' w1 b).2.2.2.2)
  generalize hCS : (#[.int .i64 k, .slice A p.length c, .slice A2 m.length c2, .slice A3 y.length c3, .slice A4 q1.length c4, .slice A5 q2.length c5] : Array Value) = CS
  generalize hDS : (#[.int .i64 k, .slice D p.length d, .slice D2 m.length d2, .slice D3 y.length d3, .slice D4 q1.length d4, .slice D5 q2.length d5] : Array Value) = DS
  have hX := (Bx.new w 40 CS).alloc (Obj.cells DS 40)
  have hY := Bx.new (w.alloc (Obj.cells CS 40)) 40 DS
  have hz : (w.alloc (Obj.cells CS 40)).heap.size = w.heap.size + 1 := by simp
  have hz2 : ((w.alloc (Obj.cells CS 40)).alloc (Obj.cells DS 40)).heap.size = w.heap.size + 2 := by simp
  rw [hz] at hY
  have hB0 : Below w.heap.size w ((w.alloc (Obj.cells CS 40)).alloc (Obj.cells DS 40)) := Below.alloc (Below.alloc (Below.refl _ _) (Nat.le_refl _) _) (by rw [hz]; omega) _
  subst hCS hDS
  have D1 := hid (C1.out _ hB0)
  have HX := hid (fun (w1 : World) (b : Below (w.heap.size + 2) ((w.alloc (Obj.cells #[.int .i64 k, .slice A p.length c, .slice A2 m.length c2, .slice A3 y.length c3, .slice A4 q1.length c4, .slice A5 q2.length c5] 40)).alloc (Obj.cells #[.int .i64 k, .slice D p.length d, .slice D2 m.length d2, .slice D3 y.length d3, .slice D4 q1.length d4, .slice D5 q2.length d5] 40)) w1) => (zc (hX.below b (by omega))).1)
  have HY := hid (fun (w1 : World) (b : Below (w.heap.size + 2) ((w.alloc (Obj.cells #[.int .i64 k, .slice A p.length c, .slice A2 m.length c2, .slice A3 y.length c3, .slice A4 q1.length c4, .slice A5 q2.length c5] 40)).alloc (Obj.cells #[.int .i64 k, .slice D p.length d, .slice D2 m.length d2, .slice D3 y.length d3, .slice D4 q1.length d4, .slice D5 q2.length d5] 40)) w1) => (zc (hY.below b (by omega))).1)
  have HZ := hid hz2
  have HB := hid hB0
  clear hX hY hz hz2 hB0 H H' h h' C1
  go_enter Try.func17, Try.ntmps17
  go_wp2_with fail
  refine D1.out.mono ?_
  rintro e w1 ⟨rfl, hb1⟩
  have hB1 := bchain HB.out hb1
  have hW1 := hb1
  rw [HZ.out] at hW1
  obtain ⟨-, -, a2, -, -, -⟩ := HX.out w1 hW1
  obtain ⟨-, -, b2, -, -, -⟩ := HY.out w1 hW1
  have z1 := hW1.size
  rw [HZ.out] at z1
  have HW1 := hid hW1
  clear D1 hb1 hW1
  go_wp2_with fail
  refine (C2.out w1 hB1).mono ?_
  rintro e w2 ⟨rfl, hb2⟩
  have hB2 := bchain hB1 hb2
  have hW2 := HW1.out.trans (hb2.mono z1)
  obtain ⟨-, -, -, a3, -, -⟩ := HX.out w2 hW2
  obtain ⟨-, -, -, b3, -, -⟩ := HY.out w2 hW2
  have z2 : w.heap.size + 2 ≤ w2.heap.size := Nat.le_trans z1 hb2.size
  have HW2 := hid hW2
  clear C2 hb2 hW2 a2 b2 HW1
  go_wp2_with fail
  refine (C3.out w2 hB2).mono ?_
  rintro e w3 ⟨rfl, hb3⟩
  have hB3 := bchain hB2 hb3
  have hW3 := HW2.out.trans (hb3.mono z2)
  obtain ⟨-, -, -, -, a4, a5⟩ := HX.out w3 hW3
  obtain ⟨-, -, -, -, b4, b5⟩ := HY.out w3 hW3
  clear C3 hb3 hW3 a3 b3 HW2 HX HY HB HZ
  go_wp2_with fail
  refine (C4.out w3 hB3).mono ?_
  rintro e w4 ⟨rfl, hb4⟩
  have hB4 := bchain hB3 hb4
  clear C4 hb4 a4 a5 b4 b5
  go_wp2
  go_ret
  exact ⟨rfl, hB4⟩
end Go.Proofs.Ytkglkpohbckpcaa
