/- Contracts of the laws' own helpers over notations, spec.ReadNotation, and the law's walk. -/
import Derived.Test.YtkglkpohbckpcaaGreatNn
namespace Go.Proofs.YtkglkpohbckpcaaGreat
open Go.RowKit
set_option linter.unusedVariables false

/-- The notation that lies there reads as x. -/
def NtRd (x : Note) (s : Six) (w : World) : Prop :=
  Rd w w.heap.size 1 s.A x.2.1.length (ints x.2.1) ∧ RdG w w.heap.size s.A2 x.2.2.1.length x.2.2.1 ∧ Rd w w.heap.size 4 s.A3 x.2.2.2.1.length (bts x.2.2.2.1) ∧ Rd w w.heap.size 2 s.A4 x.2.2.2.2.1.length (ths x.2.2.2.2.1) ∧ Rd w w.heap.size 2 s.A5 x.2.2.2.2.2.length (ths x.2.2.2.2.2)
theorem NtRd.below {x : Note} {s : Six} {w w' : World} (h : NtRd x s w) (hb : Below w.heap.size w w') : NtRd x s w' := by
  obtain ⟨h1, h2, h3, h4, h5⟩ := h
  exact ⟨(h1.below hb (Nat.le_refl _)).more hb.size, (h2.below hb (Nat.le_refl _)).more hb.size, (h3.below hb (Nat.le_refl _)).more hb.size, (h4.below hb (Nat.le_refl _)).more hb.size, (h5.below hb (Nat.le_refl _)).more hb.size⟩
/-- Lists that are short. -/
def NtSm (x : Note) : Prop := x.2.1.length ≤ 1000000 ∧ (x.2.2.1.length ≤ 1000000 ∧ (∀ r ∈ x.2.2.1, r.length ≤ 1000000) ∧ tot x.2.2.1 ≤ 1000000) ∧ x.2.2.2.1.length ≤ 1000000 ∧ x.2.2.2.2.1.length ≤ 1000000 ∧ x.2.2.2.2.2.length ≤ 1000000
set_option maxRecDepth 100000 in
set_option maxHeartbeats 2000000 in
theorem eqNotation_same (k : Int) (p : List Int) (m : List (List Int)) (y : List Beat) (q1 q2 : List PT) (s t : Six) (w : World) (hs : NtSm (k, p, m, y, (q1, q2))) (h : NtRd (k, p, m, y, (q1, q2)) s w) (h' : NtRd (k, p, m, y, (q1, q2)) t w) :
    Calls Tryz.prog 7 #[.agg #[.int .i64 k, .slice s.A p.length s.c, .slice s.A2 m.length s.c2, .slice s.A3 y.length s.c3, .slice s.A4 q1.length s.c4, .slice s.A5 q2.length s.c5], .agg #[.int .i64 k, .slice t.A p.length t.c, .slice t.A2 m.length t.c2, .slice t.A3 y.length t.c3, .slice t.A4 q1.length t.c4, .slice t.A5 q2.length t.c5]] w fun e w' => e = .returned (.bool true) ∧ Below w.heap.size w w' := by
  obtain ⟨A, c, A2, c2, A3, c3, A4, c4, A5, c5⟩ := s
  obtain ⟨D, d, D2, d2, D3, d3, D4, d4, D5, d5⟩ := t
  obtain ⟨l1, ⟨l2, l3, _⟩, l4, l5, l6⟩ := hs
  simp only at l1 l2 l3 l4 l5 l6 ⊢
  have H := fun (w1 : World) (b : Below w.heap.size w w1) => h.below b
  have H' := fun (w1 : World) (b : Below w.heap.size w w1) => h'.below b
  unfold NtRd at H H'
  simp only at H H'
  have C1 := hid (fun (w1 : World) (b : Below w.heap.size w w1) => eqInt64S_same A D p.length c d p w1 (by omega) (H w1 b).1 (H' w1 b).1)
  have C2 := hid (fun (w1 : World) (b : Below w.heap.size w w1) => eqMulti_same A2 D2 m.length c2 d2 m w1 (by omega) (fun r hr => by have := l3 r hr; omega) (H w1 b).2.1 (H' w1 b).2.1)
  have C3 := hid (fun (w1 : World) (b : Below w.heap.size w w1) => eqSyncBeatS_same A3 D3 y.length c3 d3 y w1 (by omega) (H w1 b).2.2.1 (H' w1 b).2.2.1)
  have C4 := hid (fun (w1 : World) (b : Below w.heap.size w w1) => eqPassing_same A4 D4 A5 D5 q1.length c4 d4 q2.length c5 d5 (q1, q2) w1 (by omega) (by omega) (H w1 b).2.2.2.1 (H' w1 b).2.2.2.1 (H w1 b).2.2.2.2 (H' w1 b).2.2.2.2)
  generalize hCS : (#[.int .i64 k, .slice A p.length c, .slice A2 m.length c2, .slice A3 y.length c3, .slice A4 q1.length c4, .slice A5 q2.length c5] : Array Value) = CS
  generalize hDS : (#[.int .i64 k, .slice D p.length d, .slice D2 m.length d2, .slice D3 y.length d3, .slice D4 q1.length d4, .slice D5 q2.length d5] : Array Value) = DS
  have hX := (Bx.new w 31 CS).alloc (Obj.cells DS 31)
  have hY := Bx.new (w.alloc (Obj.cells CS 31)) 31 DS
  have hz : (w.alloc (Obj.cells CS 31)).heap.size = w.heap.size + 1 := by simp
  have hz2 : ((w.alloc (Obj.cells CS 31)).alloc (Obj.cells DS 31)).heap.size = w.heap.size + 2 := by simp
  rw [hz] at hY
  have hB0 : Below w.heap.size w ((w.alloc (Obj.cells CS 31)).alloc (Obj.cells DS 31)) := Below.alloc (Below.alloc (Below.refl _ _) (Nat.le_refl _) _) (by rw [hz]; omega) _
  subst hCS hDS
  have D1 := hid (C1.out _ hB0)
  have HX := hid (fun (w1 : World) (b : Below (w.heap.size + 2) ((w.alloc (Obj.cells #[.int .i64 k, .slice A p.length c, .slice A2 m.length c2, .slice A3 y.length c3, .slice A4 q1.length c4, .slice A5 q2.length c5] 31)).alloc (Obj.cells #[.int .i64 k, .slice D p.length d, .slice D2 m.length d2, .slice D3 y.length d3, .slice D4 q1.length d4, .slice D5 q2.length d5] 31)) w1) => (zc (hX.below b (by omega))).1)
  have HY := hid (fun (w1 : World) (b : Below (w.heap.size + 2) ((w.alloc (Obj.cells #[.int .i64 k, .slice A p.length c, .slice A2 m.length c2, .slice A3 y.length c3, .slice A4 q1.length c4, .slice A5 q2.length c5] 31)).alloc (Obj.cells #[.int .i64 k, .slice D p.length d, .slice D2 m.length d2, .slice D3 y.length d3, .slice D4 q1.length d4, .slice D5 q2.length d5] 31)) w1) => (zc (hY.below b (by omega))).1)
  have HZ := hid hz2
  have HB := hid hB0
  clear hX hY hz hz2 hB0 H H' h h' C1
  go_enter Tryz.func7, Tryz.ntmps7
  go_wp2_with fail
  refine D1.out.mono ?_
  rintro e w1 ⟨rfl, hb1⟩
  have hB1 := bchain HB.out hb1
  have hW1 := hb1
  rw [HZ.out] at hW1
  obtain ⟨-, -, a2, -, -, -⟩ := HX.out w1 hW1
  obtain ⟨-, -, b2, -, -, -⟩ := HY.out w1 hW1
  have z1 := hW1.size
  rw [HZ.out] at z1
  have HW1 := hid hW1
  clear D1 hb1 hW1
  go_wp2_with fail
  refine (C2.out w1 hB1).mono ?_
  rintro e w2 ⟨rfl, hb2⟩
  have hB2 := bchain hB1 hb2
  have hW2 := HW1.out.trans (hb2.mono z1)
  obtain ⟨-, -, -, a3, -, -⟩ := HX.out w2 hW2
  obtain ⟨-, -, -, b3, -, -⟩ := HY.out w2 hW2
  have z2 : w.heap.size + 2 ≤ w2.heap.size := Nat.le_trans z1 hb2.size
  have HW2 := hid hW2
  clear C2 hb2 hW2 a2 b2 HW1
  go_wp2_with fail
  refine (C3.out w2 hB2).mono ?_
  rintro e w3 ⟨rfl, hb3⟩
  have hB3 := bchain hB2 hb3
  have hW3 := HW2.out.trans (hb3.mono z2)
  obtain ⟨-, -, -, -, a4, a5⟩ := HX.out w3 hW3
  obtain ⟨-, -, -, -, b4, b5⟩ := HY.out w3 hW3
  clear C3 hb3 hW3 a3 b3 HW2 HX HY HB HZ
  go_wp2_with fail
  refine (C4.out w3 hB3).mono ?_
  rintro e w4 ⟨rfl, hb4⟩
  have hB4 := bchain hB3 hb4
  clear C4 hb4 a4 a5 b4 b5
  go_wp2
  go_ret
  exact ⟨rfl, hB4⟩
/-- The notation that lies there bears marks. -/
def NtMk (x : Note) (s : Six) (w : World) : Prop :=
  Rd w w.heap.size 1 s.A x.2.1.length (ints (marks 1 x.2.1.length)) ∧ RdG w w.heap.size s.A2 x.2.2.1.length (mkRows (1 + x.2.1.length) x.2.2.1) ∧
  Rd w w.heap.size 4 s.A3 x.2.2.2.1.length (bts (mkB ((1 + x.2.1.length + tot x.2.2.1 : Nat) : Int) x.2.2.2.1.length)) ∧
  Rd w w.heap.size 2 s.A4 x.2.2.2.2.1.length (ths (mkP ((1 + x.2.1.length + tot x.2.2.1 + 4 * x.2.2.2.1.length : Nat) : Int) x.2.2.2.2.1.length)) ∧
  Rd w w.heap.size 2 s.A5 x.2.2.2.2.2.length (ths (mkP ((1 + x.2.1.length + tot x.2.2.1 + 4 * x.2.2.2.1.length + 2 * x.2.2.2.2.1.length : Nat) : Int) x.2.2.2.2.2.length))
theorem NtMk.below {x : Note} {s : Six} {w w' : World} (h : NtMk x s w) (hb : Below w.heap.size w w') : NtMk x s w' := by
  obtain ⟨h1, h2, h3, h4, h5⟩ := h
  exact ⟨(h1.below hb (Nat.le_refl _)).more hb.size, (h2.below hb (Nat.le_refl _)).more hb.size, (h3.below hb (Nat.le_refl _)).more hb.size, (h4.below hb (Nat.le_refl _)).more hb.size, (h5.below hb (Nat.le_refl _)).more hb.size⟩
def ntK (x : Note) : Nat := 1 + x.2.1.length + tot x.2.2.1 + 4 * x.2.2.2.1.length + 2 * x.2.2.2.2.1.length + 2 * x.2.2.2.2.2.length
set_option maxRecDepth 100000 in
set_option maxHeartbeats 2000000 in
theorem heldNotation_any (k : Int) (p : List Int) (m : List (List Int)) (y : List Beat) (q1 q2 : List PT) (s : Six) (w : World) (hs : NtSm (k, p, m, y, (q1, q2))) (h : NtMk (k, p, m, y, (q1, q2)) s w) :
    Calls Tryz.prog 9 #[.agg #[.int .i64 k, .slice s.A p.length s.c, .slice s.A2 m.length s.c2, .slice s.A3 y.length s.c3, .slice s.A4 q1.length s.c4, .slice s.A5 q2.length s.c5], .int .i64 1] w fun e w' => e = .returned (.int .i64 ((ntK (k, p, m, y, (q1, q2)) : Nat) : Int)) ∧ Below w.heap.size w w' := by
  obtain ⟨A, c, A2, c2, A3, c3, A4, c4, A5, c5⟩ := s
  obtain ⟨l1, ⟨l2, l3, l7⟩, l4, l5, l6⟩ := hs
  unfold ntK
  simp only at l1 l2 l3 l4 l5 l6 l7 ⊢
  have H := fun (w1 : World) (b : Below w.heap.size w w1) => h.below b
  unfold NtMk at H
  simp only at H
  have C1 := fun (w1 : World) (b : Below w.heap.size w w1) => heldInt64S_any A p.length c 1 w1 (by omega) (by omega) (H w1 b).1
  have C2 := fun (w1 : World) (b : Below w.heap.size w w1) => heldMulti_any A2 m.length c2 (1 + p.length) m w1 (by omega) (by omega) (H w1 b).2.1
  have C3 := fun (w1 : World) (b : Below w.heap.size w w1) => heldSyncBeatS_any A3 y.length c3 (1 + p.length + tot m) w1 (by omega) (by omega) (H w1 b).2.2.1
  have C4 := fun (w1 : World) (b : Below w.heap.size w w1) => heldPassing_any A4 A5 q1.length c4 q2.length c5 (1 + p.length + tot m + 4 * y.length) w1 (by omega) (by omega) (by omega) (H w1 b).2.2.2.1 (H w1 b).2.2.2.2
  generalize hCS : (#[.int .i64 k, .slice A p.length c, .slice A2 m.length c2, .slice A3 y.length c3, .slice A4 q1.length c4, .slice A5 q2.length c5] : Array Value) = CS
  have hX := Bx.new w 31 CS
  have hz : (w.alloc (Obj.cells CS 31)).heap.size = w.heap.size + 1 := by simp
  have hB0 : Below w.heap.size w (w.alloc (Obj.cells CS 31)) := Below.alloc (Below.refl _ _) (Nat.le_refl _) _
  subst hCS
  have D1 := C1 _ hB0
  have HX := hid (fun (w1 : World) (b : Below (w.heap.size + 1) (w.alloc (Obj.cells #[.int .i64 k, .slice A p.length c, .slice A2 m.length c2, .slice A3 y.length c3, .slice A4 q1.length c4, .slice A5 q2.length c5] 31)) w1) => (zc (hX.below b (by omega))).1)
  have HZ := hid hz
  have HB := hid hB0
  have n1 : ¬ ((1 + p.length : Nat) : Int) < 0 := by omega
  have n2 : ¬ ((1 + p.length + tot m : Nat) : Int) < 0 := by omega
  have n3 : ¬ ((1 + p.length + tot m + 4 * y.length : Nat) : Int) < 0 := by omega
  have n4 : ¬ ((1 + p.length + tot m + 4 * y.length + 2 * q1.length + 2 * q2.length : Nat) : Int) < 0 := by omega
  clear hX hz hB0 H h C1
  have D1 : Calls Tryz.prog 40 #[.slice A p.length c, .int .i64 1] (w.alloc (Obj.cells #[.int .i64 k, .slice A p.length c, .slice A2 m.length c2, .slice A3 y.length c3, .slice A4 q1.length c4, .slice A5 q2.length c5] 31)) _ := D1
  generalize 1 + p.length + tot m + 4 * y.length + 2 * q1.length + 2 * q2.length = K4 at *
  generalize 1 + p.length + tot m + 4 * y.length = K3 at *
  generalize 1 + p.length + tot m = K2 at *
  generalize 1 + p.length = K1 at *
  have D1 := hid D1
  have C2 := hid C2
  have C3 := hid C3
  have C4 := hid C4
  go_enter Tryz.func9, Tryz.ntmps9
  go_wp2_with fail
  refine D1.out.mono ?_
  rintro e w1 ⟨rfl, hb1⟩
  have hB1 := bchain HB.out hb1
  have hW1 := hb1
  rw [HZ.out] at hW1
  obtain ⟨-, -, a2, -, -, -⟩ := HX.out w1 hW1
  have z1 := hW1.size
  rw [HZ.out] at z1
  have HW1 := hid hW1
  clear D1 hb1 hW1
  go_wp2_with fail
  refine (C2.out w1 hB1).mono ?_
  rintro e w2 ⟨rfl, hb2⟩
  have hB2 := bchain hB1 hb2
  have hW2 := HW1.out.trans (hb2.mono z1)
  obtain ⟨-, -, -, a3, -, -⟩ := HX.out w2 hW2
  have z2 : w.heap.size + 1 ≤ w2.heap.size := Nat.le_trans z1 hb2.size
  have HW2 := hid hW2
  clear C2 hb2 hW2 a2 HW1
  go_wp2_with fail
  refine (C3.out w2 hB2).mono ?_
  rintro e w3 ⟨rfl, hb3⟩
  have hB3 := bchain hB2 hb3
  have hW3 := HW2.out.trans (hb3.mono z2)
  obtain ⟨-, -, -, -, a4, a5⟩ := HX.out w3 hW3
  clear C3 hb3 hW3 a3 HW2 HX HB HZ
  go_wp2_with fail
  refine (C4.out w3 hB3).mono ?_
  rintro e w4 ⟨rfl, hb4⟩
  have hB4 := bchain hB3 hb4
  clear C4 hb4 a4 a5
  go_wp2
  go_ret
  exact ⟨rfl, hB4⟩
theorem gr_below {w w' : World} (h : w.grownBy w' none) : Below w.heap.size w w' := ⟨h.os, h.tape, h.output, h.size, fun k hk => h.block k hk (fun e => by cases e)⟩
theorem markInt64S_nil (k0 : Nat) (w : World) (hk : k0 ≤ 1099511627776) : Calls Tryz.prog 36 #[.slice none 0 0, .int .i64 k0] w fun e w' => e = .returned (.int .i64 (k0 : Int)) ∧ Below w.heap.size w w' :=
  (markInt64S_any (.slice none 0 0) 0 w.heap.size k0 [] w (by omega) hk (World.ownsRow_nil _ _ _ _)).mono fun e w' h => ⟨h.1, gr_below h.2.2⟩
theorem markMulti_nil (k0 : Nat) (w : World) (hk : k0 ≤ 1099511627776) : Calls Tryz.prog 37 #[.agg #[.slice none 0 0], .int .i64 k0] w fun e w' => e = .returned (.int .i64 (k0 : Int)) ∧ Below w.heap.size w w' :=
  (markMulti_any none 0 0 w.heap.size w.heap.size k0 [] w (by simp) (by simpa [tot] using hk) (Nat.le_refl _) (Grid.nil _ _ _)).mono fun e w' h => ⟨h.1, h.2.2.1⟩
theorem markSyncBeatS_nil (k0 : Nat) (w : World) (hk : k0 ≤ 1099511627776) : Calls Tryz.prog 38 #[.slice none 0 0, .int .i64 k0] w fun e w' => e = .returned (.int .i64 (k0 : Int)) ∧ Below w.heap.size w w' :=
  (markSyncBeatS_any (.slice none 0 0) 0 w.heap.size k0 [] w (by omega) hk (World.ownsRow_nil _ _ _ _)).mono fun e w' h => ⟨h.1, gr_below h.2.2⟩
theorem markPassing_nil (k0 : Nat) (w : World) (hk : k0 ≤ 1099511627776) : Calls Tryz.prog 39 #[.agg #[.slice none 0 0, .slice none 0 0], .int .i64 k0] w fun e w' => e = .returned (.int .i64 (k0 : Int)) ∧ Below w.heap.size w w' :=
  (markPassing_any none none 0 0 0 0 w.heap.size k0 ([], []) w (by omega) (by omega) (by omega) (Nat.le_refl _) (World.ownsRow_nil _ _ _ _) (World.ownsRow_nil _ _ _ _) (fun g h hg => by cases hg)).mono fun e w' h => ⟨h.1, h.2.2.2.1⟩
set_option maxRecDepth 100000 in
set_option maxHeartbeats 2000000 in
theorem markNotation_1 (B M : Nat) (k : Int) (p : List Int) (A : Option Addr) (c : Nat) (w : World) (h1 : p.length ≤ 1000000) (hB : B ≤ w.heap.size) (hM : M ≤ w.heap.size) (ho : w.ownsRow B 2 1 (.slice A p.length c) p.length (ints p)) (hlt : ∀ g, (Value.slice A p.length c).ownBlock = some g → g < M) :
    Calls Tryz.prog 8 #[.agg #[.int .i64 k, .slice A p.length c, .slice none 0 0, .slice none 0 0, .slice none 0 0, .slice none 0 0], .int .i64 1] w fun e w' => e = .returned (.int .i64 ((ntK (k, p, [], [], ([], [])) : Nat) : Int)) ∧ NtMk (k, p, [], [], ([], [])) ⟨A, c, none, 0, none, 0, none, 0, none, 0⟩ w' ∧ Below B w w' ∧ (∀ q, M ≤ q → q < w.heap.size → w'.heap[q]? = w.heap[q]?) := by
  have hbW : Below w.heap.size w (w.alloc (Obj.cells #[.int .i64 k, .slice A p.length c, .slice none 0 0, .slice none 0 0, .slice none 0 0, .slice none 0 0] 31)) := Below.alloc (Below.refl _ _) (Nat.le_refl _) _
  have hX0 := hid (Bx.new w 31 #[.int .i64 k, .slice A p.length c, .slice none 0 0, .slice none 0 0, .slice none 0 0, .slice none 0 0])
  have hz : (w.alloc (Obj.cells #[.int .i64 k, .slice A p.length c, .slice none 0 0, .slice none 0 0, .slice none 0 0, .slice none 0 0] 31)).heap.size = w.heap.size + 1 := by simp
  have HO0 := hid (own_below ho hbW)
  have HLT := hid ho.lt
  have HLM := hid hlt
  have HF0 : Hid (∀ q, M ≤ q → q < w.heap.size → (w.alloc (Obj.cells #[.int .i64 k, .slice A p.length c, .slice none 0 0, .slice none 0 0, .slice none 0 0, .slice none 0 0] 31)).heap[q]? = w.heap[q]?) := fun q _ h => hbW.block q h
  have hB0 := hid (hbW.mono hB)
  have hZ0 : Hid (w.heap.size + 1 ≤ (w.alloc (Obj.cells #[.int .i64 k, .slice A p.length c, .slice none 0 0, .slice none 0 0, .slice none 0 0, .slice none 0 0] 31)).heap.size) := by show _ ≤ _; omega
  clear hbW hz ho hlt
  go_enter Tryz.func8, Tryz.ntmps8
  go_wp2_with fail
  refine (markInt64S_any (.slice A p.length c) p.length B 1 (ints p) _ (by omega) (by omega) HO0.out).mono ?_
  rintro e w1 ⟨rfl, ho1, hg1⟩
  have hX1 := hid (hX0.out.grown hg1 (fun e => by have := (HLT.out _ e.symm).2; omega))
  have hB1 := hid (hB0.out.trans (show Below B _ w1 from ⟨hg1.os, hg1.tape, hg1.output, hg1.size, fun q hq => hg1.block q (by have := hZ0.out; omega) fun e => by have := (HLT.out q e.symm).1; omega⟩))
  have hZ1 : Hid (w.heap.size + 1 ≤ w1.heap.size) := Nat.le_trans hZ0.out hg1.size
  have HO1 := hid ho1
  have HF1 : Hid (∀ q, M ≤ q → q < w.heap.size → w1.heap[q]? = w.heap[q]?) := fun q h1 h2 => (hg1.block q (by have := hZ0.out; omega) (fun e => by have := HLM.out q e.symm; omega)).trans (HF0.out q h1 h2)
  clear HF0
  clear hg1 ho1 hX0 hB0 hZ0 HO0
  obtain ⟨⟨-, -, a2, a3, a4, a5⟩, -⟩ := zc hX1.out
  have zz1 : w.heap.size + 1 ≤ w1.heap.size := hZ1.out
  clear a3 a4 a5
  go_wp2_with fail
  refine (markMulti_nil (1 + p.length) _ (by omega)).mono ?_
  rintro e w2 ⟨rfl, hb2⟩
  have hX2 := hid (hX1.out.below hb2 (by have := hZ1.out; omega))
  have hB2 := hid (hB1.out.trans (hb2.mono (by have := hZ1.out; omega)))
  have hZ2 : Hid (w.heap.size + 1 ≤ w2.heap.size) := Nat.le_trans hZ1.out hb2.size
  have HO2 := hid (own_below HO1.out hb2)
  have HF2 : Hid (∀ q, M ≤ q → q < w.heap.size → w2.heap[q]? = w.heap[q]?) := fun q h1 h2 => (hb2.block q (by have := hZ1.out; omega)).trans (HF1.out q h1 h2)
  clear HF1
  clear hb2 hX1 hB1 hZ1 HO1
  obtain ⟨⟨-, -, a2, a3, a4, a5⟩, -⟩ := zc hX2.out
  have zz2 : w.heap.size + 1 ≤ w2.heap.size := hZ2.out
  clear a2 a4 a5
  go_wp2_with fail
  refine (markSyncBeatS_nil (1 + p.length) _ (by omega)).mono ?_
  rintro e w3 ⟨rfl, hb3⟩
  have hX3 := hid (hX2.out.below hb3 (by have := hZ2.out; omega))
  have hB3 := hid (hB2.out.trans (hb3.mono (by have := hZ2.out; omega)))
  have hZ3 : Hid (w.heap.size + 1 ≤ w3.heap.size) := Nat.le_trans hZ2.out hb3.size
  have HO3 := hid (own_below HO2.out hb3)
  have HF3 : Hid (∀ q, M ≤ q → q < w.heap.size → w3.heap[q]? = w.heap[q]?) := fun q h1 h2 => (hb3.block q (by have := hZ2.out; omega)).trans (HF2.out q h1 h2)
  clear HF2
  clear hb3 hX2 hB2 hZ2 HO2
  obtain ⟨⟨-, -, a2, a3, a4, a5⟩, -⟩ := zc hX3.out
  have zz3 : w.heap.size + 1 ≤ w3.heap.size := hZ3.out
  clear a2 a3
  go_wp2_with fail
  refine (markPassing_nil (1 + p.length) _ (by omega)).mono ?_
  rintro e w4 ⟨rfl, hb4⟩
  have hX4 := hid (hX3.out.below hb4 (by have := hZ3.out; omega))
  have hB4 := hid (hB3.out.trans (hb4.mono (by have := hZ3.out; omega)))
  have hZ4 : Hid (w.heap.size + 1 ≤ w4.heap.size) := Nat.le_trans hZ3.out hb4.size
  have HO4 := hid (own_below HO3.out hb4)
  have HF4 : Hid (∀ q, M ≤ q → q < w.heap.size → w4.heap[q]? = w.heap[q]?) := fun q h1 h2 => (hb4.block q (by have := hZ3.out; omega)).trans (HF3.out q h1 h2)
  clear HF3
  clear hb4 hX3 hB3 hZ3 HO3
  go_wp2
  go_ret
  refine ⟨by simp [ntK, tot], ⟨Rd.of_own HO4.out, ⟨rfl, fun h => absurd h (by simp)⟩, ⟨rfl, fun h => absurd h (by simp)⟩, ⟨rfl, fun h => absurd h (by simp)⟩, ⟨rfl, fun h => absurd h (by simp)⟩⟩, hB4.out, HF4.out⟩
set_option maxRecDepth 100000 in
set_option maxHeartbeats 2000000 in
theorem markNotation_2 (B M : Nat) (k : Int) (m : List (List Int)) (A : Option Addr) (c : Nat) (w : World) (h1 : m.length ≤ 1000000) (h2 : tot m ≤ 1000000) (hB : B ≤ w.heap.size) (hM : M ≤ w.heap.size) (ho : Grid w B M (.slice A m.length c) m) :
    Calls Tryz.prog 8 #[.agg #[.int .i64 k, .slice none 0 0, .slice A m.length c, .slice none 0 0, .slice none 0 0, .slice none 0 0], .int .i64 1] w fun e w' => e = .returned (.int .i64 ((ntK (k, [], m, [], ([], [])) : Nat) : Int)) ∧ NtMk (k, [], m, [], ([], [])) ⟨none, 0, A, c, none, 0, none, 0, none, 0⟩ w' ∧ Below B w w' ∧ (∀ q, M ≤ q → q < w.heap.size → w'.heap[q]? = w.heap[q]?) := by
  have hbW : Below w.heap.size w (w.alloc (Obj.cells #[.int .i64 k, .slice none 0 0, .slice A m.length c, .slice none 0 0, .slice none 0 0, .slice none 0 0] 31)) := Below.alloc (Below.refl _ _) (Nat.le_refl _) _
  have hX0 := hid (Bx.new w 31 #[.int .i64 k, .slice none 0 0, .slice A m.length c, .slice none 0 0, .slice none 0 0, .slice none 0 0])
  have hz : (w.alloc (Obj.cells #[.int .i64 k, .slice none 0 0, .slice A m.length c, .slice none 0 0, .slice none 0 0, .slice none 0 0] 31)).heap.size = w.heap.size + 1 := by simp
  have HO0 := hid (ho.below hbW)
  have HF0 : Hid (∀ q, M ≤ q → q < w.heap.size → (w.alloc (Obj.cells #[.int .i64 k, .slice none 0 0, .slice A m.length c, .slice none 0 0, .slice none 0 0, .slice none 0 0] 31)).heap[q]? = w.heap[q]?) := fun q _ h => hbW.block q h
  have hB0 := hid (hbW.mono hB)
  have hZ0 : Hid (w.heap.size + 1 ≤ (w.alloc (Obj.cells #[.int .i64 k, .slice none 0 0, .slice A m.length c, .slice none 0 0, .slice none 0 0, .slice none 0 0] 31)).heap.size) := by show _ ≤ _; omega
  clear hbW hz ho
  go_enter Tryz.func8, Tryz.ntmps8
  go_wp2_with fail
  refine (markInt64S_nil (1) _ (by omega)).mono ?_
  rintro e w1 ⟨rfl, hb1⟩
  have hX1 := hid (hX0.out.below hb1 (by have := hZ0.out; omega))
  have hB1 := hid (hB0.out.trans (hb1.mono (by have := hZ0.out; omega)))
  have hZ1 : Hid (w.heap.size + 1 ≤ w1.heap.size) := Nat.le_trans hZ0.out hb1.size
  have HO1 := hid (HO0.out.below hb1)
  have HF1 : Hid (∀ q, M ≤ q → q < w.heap.size → w1.heap[q]? = w.heap[q]?) := fun q h1 h2 => (hb1.block q (by have := hZ0.out; omega)).trans (HF0.out q h1 h2)
  clear HF0
  clear hb1 hX0 hB0 hZ0 HO0
  obtain ⟨⟨-, -, a2, a3, a4, a5⟩, -⟩ := zc hX1.out
  have zz1 : w.heap.size + 1 ≤ w1.heap.size := hZ1.out
  clear a3 a4 a5
  go_wp2_with fail
  refine (markMulti_any A m.length c B M 1 m w1 (by omega) (by omega) (by have := hZ1.out; omega) HO1.out).mono ?_
  rintro e w2 ⟨rfl, ho2, hb2, hf2⟩
  have hX2 := hid (show Bx w2 w.heap.size 31 #[.int .i64 k, .slice none 0 0, .slice A m.length c, .slice none 0 0, .slice none 0 0, .slice none 0 0] from (hf2 w.heap.size hM (by have := hZ1.out; omega)).trans hX1.out)
  have hB2 := hid (hB1.out.trans hb2)
  have hZ2 : Hid (w.heap.size + 1 ≤ w2.heap.size) := Nat.le_trans hZ1.out hb2.size
  have HO2 := hid ho2
  have HF2 : Hid (∀ q, M ≤ q → q < w.heap.size → w2.heap[q]? = w.heap[q]?) := fun q h1 h2 => (hf2 q h1 (by have := hZ1.out; omega)).trans (HF1.out q h1 h2)
  clear HF1
  clear hf2 hb2 ho2 hX1 hB1 hZ1 HO1
  obtain ⟨⟨-, -, a2, a3, a4, a5⟩, -⟩ := zc hX2.out
  have zz2 : w.heap.size + 1 ≤ w2.heap.size := hZ2.out
  clear a2 a4 a5
  go_wp2_with fail
  refine (markSyncBeatS_nil (1 + tot m) _ (by omega)).mono ?_
  rintro e w3 ⟨rfl, hb3⟩
  have hX3 := hid (hX2.out.below hb3 (by have := hZ2.out; omega))
  have hB3 := hid (hB2.out.trans (hb3.mono (by have := hZ2.out; omega)))
  have hZ3 : Hid (w.heap.size + 1 ≤ w3.heap.size) := Nat.le_trans hZ2.out hb3.size
  have HO3 := hid (HO2.out.below hb3)
  have HF3 : Hid (∀ q, M ≤ q → q < w.heap.size → w3.heap[q]? = w.heap[q]?) := fun q h1 h2 => (hb3.block q (by have := hZ2.out; omega)).trans (HF2.out q h1 h2)
  clear HF2
  clear hb3 hX2 hB2 hZ2 HO2
  obtain ⟨⟨-, -, a2, a3, a4, a5⟩, -⟩ := zc hX3.out
  have zz3 : w.heap.size + 1 ≤ w3.heap.size := hZ3.out
  clear a2 a3
  go_wp2_with fail
  refine (markPassing_nil (1 + tot m) _ (by omega)).mono ?_
  rintro e w4 ⟨rfl, hb4⟩
  have hX4 := hid (hX3.out.below hb4 (by have := hZ3.out; omega))
  have hB4 := hid (hB3.out.trans (hb4.mono (by have := hZ3.out; omega)))
  have hZ4 : Hid (w.heap.size + 1 ≤ w4.heap.size) := Nat.le_trans hZ3.out hb4.size
  have HO4 := hid (HO3.out.below hb4)
  have HF4 : Hid (∀ q, M ≤ q → q < w.heap.size → w4.heap[q]? = w.heap[q]?) := fun q h1 h2 => (hb4.block q (by have := hZ3.out; omega)).trans (HF3.out q h1 h2)
  clear HF3
  clear hb4 hX3 hB3 hZ3 HO3
  go_wp2
  go_ret
  refine ⟨by simp [ntK], ⟨⟨rfl, fun h => absurd h (by simp)⟩, (show RdG w4 w4.heap.size A m.length (mkRows (1 + 0) m) from by have h := HO4.out; exact h.read), ⟨rfl, fun h => absurd h (by simp)⟩, ⟨rfl, fun h => absurd h (by simp)⟩, ⟨rfl, fun h => absurd h (by simp)⟩⟩, hB4.out, HF4.out⟩
set_option maxRecDepth 100000 in
set_option maxHeartbeats 2000000 in
theorem markNotation_3 (B M : Nat) (k : Int) (y : List Beat) (A : Option Addr) (c : Nat) (w : World) (h1 : y.length ≤ 1000000) (hB : B ≤ w.heap.size) (hM : M ≤ w.heap.size) (ho : w.ownsRow B 100 4 (.slice A y.length c) y.length (bts y)) (hlt : ∀ g, (Value.slice A y.length c).ownBlock = some g → g < M) :
    Calls Tryz.prog 8 #[.agg #[.int .i64 k, .slice none 0 0, .slice none 0 0, .slice A y.length c, .slice none 0 0, .slice none 0 0], .int .i64 1] w fun e w' => e = .returned (.int .i64 ((ntK (k, [], [], y, ([], [])) : Nat) : Int)) ∧ NtMk (k, [], [], y, ([], [])) ⟨none, 0, none, 0, A, c, none, 0, none, 0⟩ w' ∧ Below B w w' ∧ (∀ q, M ≤ q → q < w.heap.size → w'.heap[q]? = w.heap[q]?) := by
  have hbW : Below w.heap.size w (w.alloc (Obj.cells #[.int .i64 k, .slice none 0 0, .slice none 0 0, .slice A y.length c, .slice none 0 0, .slice none 0 0] 31)) := Below.alloc (Below.refl _ _) (Nat.le_refl _) _
  have hX0 := hid (Bx.new w 31 #[.int .i64 k, .slice none 0 0, .slice none 0 0, .slice A y.length c, .slice none 0 0, .slice none 0 0])
  have hz : (w.alloc (Obj.cells #[.int .i64 k, .slice none 0 0, .slice none 0 0, .slice A y.length c, .slice none 0 0, .slice none 0 0] 31)).heap.size = w.heap.size + 1 := by simp
  have HO0 := hid (own_below ho hbW)
  have HLT := hid ho.lt
  have HLM := hid hlt
  have HF0 : Hid (∀ q, M ≤ q → q < w.heap.size → (w.alloc (Obj.cells #[.int .i64 k, .slice none 0 0, .slice none 0 0, .slice A y.length c, .slice none 0 0, .slice none 0 0] 31)).heap[q]? = w.heap[q]?) := fun q _ h => hbW.block q h
  have hB0 := hid (hbW.mono hB)
  have hZ0 : Hid (w.heap.size + 1 ≤ (w.alloc (Obj.cells #[.int .i64 k, .slice none 0 0, .slice none 0 0, .slice A y.length c, .slice none 0 0, .slice none 0 0] 31)).heap.size) := by show _ ≤ _; omega
  clear hbW hz ho hlt
  go_enter Tryz.func8, Tryz.ntmps8
  go_wp2_with fail
  refine (markInt64S_nil (1) _ (by omega)).mono ?_
  rintro e w1 ⟨rfl, hb1⟩
  have hX1 := hid (hX0.out.below hb1 (by have := hZ0.out; omega))
  have hB1 := hid (hB0.out.trans (hb1.mono (by have := hZ0.out; omega)))
  have hZ1 : Hid (w.heap.size + 1 ≤ w1.heap.size) := Nat.le_trans hZ0.out hb1.size
  have HO1 := hid (own_below HO0.out hb1)
  have HF1 : Hid (∀ q, M ≤ q → q < w.heap.size → w1.heap[q]? = w.heap[q]?) := fun q h1 h2 => (hb1.block q (by have := hZ0.out; omega)).trans (HF0.out q h1 h2)
  clear HF0
  clear hb1 hX0 hB0 hZ0 HO0
  obtain ⟨⟨-, -, a2, a3, a4, a5⟩, -⟩ := zc hX1.out
  have zz1 : w.heap.size + 1 ≤ w1.heap.size := hZ1.out
  clear a3 a4 a5
  go_wp2_with fail
  refine (markMulti_nil (1) _ (by omega)).mono ?_
  rintro e w2 ⟨rfl, hb2⟩
  have hX2 := hid (hX1.out.below hb2 (by have := hZ1.out; omega))
  have hB2 := hid (hB1.out.trans (hb2.mono (by have := hZ1.out; omega)))
  have hZ2 : Hid (w.heap.size + 1 ≤ w2.heap.size) := Nat.le_trans hZ1.out hb2.size
  have HO2 := hid (own_below HO1.out hb2)
  have HF2 : Hid (∀ q, M ≤ q → q < w.heap.size → w2.heap[q]? = w.heap[q]?) := fun q h1 h2 => (hb2.block q (by have := hZ1.out; omega)).trans (HF1.out q h1 h2)
  clear HF1
  clear hb2 hX1 hB1 hZ1 HO1
  obtain ⟨⟨-, -, a2, a3, a4, a5⟩, -⟩ := zc hX2.out
  have zz2 : w.heap.size + 1 ≤ w2.heap.size := hZ2.out
  clear a2 a4 a5
  go_wp2_with fail
  refine (markSyncBeatS_any (.slice A y.length c) y.length B 1 (bts y) w2 (by omega) (by omega) HO2.out).mono ?_
  rintro e w3 ⟨rfl, ho3, hg3⟩
  have hX3 := hid (hX2.out.grown hg3 (fun e => by have := (HLT.out _ e.symm).2; omega))
  have hB3 := hid (hB2.out.trans (show Below B _ w3 from ⟨hg3.os, hg3.tape, hg3.output, hg3.size, fun q hq => hg3.block q (by have := hZ2.out; omega) fun e => by have := (HLT.out q e.symm).1; omega⟩))
  have hZ3 : Hid (w.heap.size + 1 ≤ w3.heap.size) := Nat.le_trans hZ2.out hg3.size
  have HO3 := hid ho3
  have HF3 : Hid (∀ q, M ≤ q → q < w.heap.size → w3.heap[q]? = w.heap[q]?) := fun q h1 h2 => (hg3.block q (by have := hZ2.out; omega) (fun e => by have := HLM.out q e.symm; omega)).trans (HF2.out q h1 h2)
  clear HF2
  clear hg3 ho3 hX2 hB2 hZ2 HO2
  obtain ⟨⟨-, -, a2, a3, a4, a5⟩, -⟩ := zc hX3.out
  have zz3 : w.heap.size + 1 ≤ w3.heap.size := hZ3.out
  clear a2 a3
  go_wp2_with fail
  refine (markPassing_nil (1 + 4 * y.length) _ (by omega)).mono ?_
  rintro e w4 ⟨rfl, hb4⟩
  have hX4 := hid (hX3.out.below hb4 (by have := hZ3.out; omega))
  have hB4 := hid (hB3.out.trans (hb4.mono (by have := hZ3.out; omega)))
  have hZ4 : Hid (w.heap.size + 1 ≤ w4.heap.size) := Nat.le_trans hZ3.out hb4.size
  have HO4 := hid (own_below HO3.out hb4)
  have HF4 : Hid (∀ q, M ≤ q → q < w.heap.size → w4.heap[q]? = w.heap[q]?) := fun q h1 h2 => (hb4.block q (by have := hZ3.out; omega)).trans (HF3.out q h1 h2)
  clear HF3
  clear hb4 hX3 hB3 hZ3 HO3
  go_wp2
  go_ret
  refine ⟨by simp [ntK, tot], ⟨⟨rfl, fun h => absurd h (by simp)⟩, ⟨rfl, fun h => absurd h (by simp)⟩, Rd.of_own HO4.out, ⟨rfl, fun h => absurd h (by simp)⟩, ⟨rfl, fun h => absurd h (by simp)⟩⟩, hB4.out, HF4.out⟩
set_option maxRecDepth 100000 in
set_option maxHeartbeats 2000000 in
theorem markNotation_4 (B M : Nat) (k : Int) (q1 q2 : List PT) (A : Option Addr) (c : Nat) (D : Option Addr) (d : Nat) (w : World) (h1 : q1.length ≤ 1000000) (h2 : q2.length ≤ 1000000) (hB : B ≤ w.heap.size) (hM : M ≤ w.heap.size) (ho : w.ownsRow B 105 2 (.slice A q1.length c) q1.length (ths q1)) (ho2 : w.ownsRow B 105 2 (.slice D q2.length d) q2.length (ths q2)) (hr : Rise (.slice A q1.length c) (.slice D q2.length d)) (hlt : ∀ g, (Value.slice A q1.length c).ownBlock = some g → g < M) (hlt2 : ∀ g, (Value.slice D q2.length d).ownBlock = some g → g < M) :
    Calls Tryz.prog 8 #[.agg #[.int .i64 k, .slice none 0 0, .slice none 0 0, .slice none 0 0, .slice A q1.length c, .slice D q2.length d], .int .i64 1] w fun e w' => e = .returned (.int .i64 ((ntK (k, [], [], [], (q1, q2)) : Nat) : Int)) ∧ NtMk (k, [], [], [], (q1, q2)) ⟨none, 0, none, 0, none, 0, A, c, D, d⟩ w' ∧ Below B w w' ∧ (∀ q, M ≤ q → q < w.heap.size → w'.heap[q]? = w.heap[q]?) := by
  have hbW : Below w.heap.size w (w.alloc (Obj.cells #[.int .i64 k, .slice none 0 0, .slice none 0 0, .slice none 0 0, .slice A q1.length c, .slice D q2.length d] 31)) := Below.alloc (Below.refl _ _) (Nat.le_refl _) _
  have hX0 := hid (Bx.new w 31 #[.int .i64 k, .slice none 0 0, .slice none 0 0, .slice none 0 0, .slice A q1.length c, .slice D q2.length d])
  have hz : (w.alloc (Obj.cells #[.int .i64 k, .slice none 0 0, .slice none 0 0, .slice none 0 0, .slice A q1.length c, .slice D q2.length d] 31)).heap.size = w.heap.size + 1 := by simp
  have HO0 := hid (own_below ho hbW)
  have HP0 := hid (own_below ho2 hbW)
  have HRI := hid hr
  have HLM := hid hlt
  have HLN := hid hlt2
  have HF0 : Hid (∀ q, M ≤ q → q < w.heap.size → (w.alloc (Obj.cells #[.int .i64 k, .slice none 0 0, .slice none 0 0, .slice none 0 0, .slice A q1.length c, .slice D q2.length d] 31)).heap[q]? = w.heap[q]?) := fun q _ h => hbW.block q h
  have hB0 := hid (hbW.mono hB)
  have hZ0 : Hid (w.heap.size + 1 ≤ (w.alloc (Obj.cells #[.int .i64 k, .slice none 0 0, .slice none 0 0, .slice none 0 0, .slice A q1.length c, .slice D q2.length d] 31)).heap.size) := by show _ ≤ _; omega
  clear hbW hz ho ho2 hr hlt hlt2
  go_enter Tryz.func8, Tryz.ntmps8
  go_wp2_with fail
  refine (markInt64S_nil (1) _ (by omega)).mono ?_
  rintro e w1 ⟨rfl, hb1⟩
  have hX1 := hid (hX0.out.below hb1 (by have := hZ0.out; omega))
  have hB1 := hid (hB0.out.trans (hb1.mono (by have := hZ0.out; omega)))
  have hZ1 : Hid (w.heap.size + 1 ≤ w1.heap.size) := Nat.le_trans hZ0.out hb1.size
  have HO1 := hid (own_below HO0.out hb1)
  have HP1 := hid (own_below HP0.out hb1)
  have HF1 : Hid (∀ q, M ≤ q → q < w.heap.size → w1.heap[q]? = w.heap[q]?) := fun q h1 h2 => (hb1.block q (by have := hZ0.out; omega)).trans (HF0.out q h1 h2)
  clear HF0
  clear hb1 hX0 hB0 hZ0 HO0 HP0
  obtain ⟨⟨-, -, a2, a3, a4, a5⟩, -⟩ := zc hX1.out
  have zz1 : w.heap.size + 1 ≤ w1.heap.size := hZ1.out
  clear a3 a4 a5
  go_wp2_with fail
  refine (markMulti_nil (1) _ (by omega)).mono ?_
  rintro e w2 ⟨rfl, hb2⟩
  have hX2 := hid (hX1.out.below hb2 (by have := hZ1.out; omega))
  have hB2 := hid (hB1.out.trans (hb2.mono (by have := hZ1.out; omega)))
  have hZ2 : Hid (w.heap.size + 1 ≤ w2.heap.size) := Nat.le_trans hZ1.out hb2.size
  have HO2 := hid (own_below HO1.out hb2)
  have HP2 := hid (own_below HP1.out hb2)
  have HF2 : Hid (∀ q, M ≤ q → q < w.heap.size → w2.heap[q]? = w.heap[q]?) := fun q h1 h2 => (hb2.block q (by have := hZ1.out; omega)).trans (HF1.out q h1 h2)
  clear HF1
  clear hb2 hX1 hB1 hZ1 HO1 HP1
  obtain ⟨⟨-, -, a2, a3, a4, a5⟩, -⟩ := zc hX2.out
  have zz2 : w.heap.size + 1 ≤ w2.heap.size := hZ2.out
  clear a2 a4 a5
  go_wp2_with fail
  refine (markSyncBeatS_nil (1) _ (by omega)).mono ?_
  rintro e w3 ⟨rfl, hb3⟩
  have hX3 := hid (hX2.out.below hb3 (by have := hZ2.out; omega))
  have hB3 := hid (hB2.out.trans (hb3.mono (by have := hZ2.out; omega)))
  have hZ3 : Hid (w.heap.size + 1 ≤ w3.heap.size) := Nat.le_trans hZ2.out hb3.size
  have HO3 := hid (own_below HO2.out hb3)
  have HP3 := hid (own_below HP2.out hb3)
  have HF3 : Hid (∀ q, M ≤ q → q < w.heap.size → w3.heap[q]? = w.heap[q]?) := fun q h1 h2 => (hb3.block q (by have := hZ2.out; omega)).trans (HF2.out q h1 h2)
  clear HF2
  clear hb3 hX2 hB2 hZ2 HO2 HP2
  obtain ⟨⟨-, -, a2, a3, a4, a5⟩, -⟩ := zc hX3.out
  have zz3 : w.heap.size + 1 ≤ w3.heap.size := hZ3.out
  clear a2 a3
  go_wp2_with fail
  refine (markPassing_any A D q1.length c q2.length d B 1 (q1, q2) w3 (by omega) (by omega) (by omega) (by have := hZ3.out; omega) HO3.out HP3.out HRI.out).mono ?_
  rintro e w4 ⟨rfl, ho4, hp4, hb4, hf4⟩
  have hB4 := hid (hB3.out.trans hb4)
  have HO4 := hid ho4
  have HP4 := hid hp4
  have HF4 : Hid (∀ q, M ≤ q → q < w.heap.size → w4.heap[q]? = w.heap[q]?) := fun q h1 h2 => (hf4 q (by have := hZ3.out; omega) (fun e => by have := HLM.out q e; omega) (fun e => by have := HLN.out q e; omega)).trans (HF3.out q h1 h2)
  clear HF3 hf4
  clear ho4 hp4 hb4 hX3 hB3 hZ3 HO3 HP3
  go_wp2
  go_ret
  refine ⟨by simp [ntK, tot], ⟨⟨rfl, fun h => absurd h (by simp)⟩, ⟨rfl, fun h => absurd h (by simp)⟩, ⟨rfl, fun h => absurd h (by simp)⟩, Rd.of_own HO4.out, Rd.of_own HP4.out⟩, hB4.out, HF4.out⟩
end Go.Proofs.YtkglkpohbckpcaaGreat
