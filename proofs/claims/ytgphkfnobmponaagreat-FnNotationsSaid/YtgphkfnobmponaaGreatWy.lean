/- The text: Wy. -/
import Derived.Test.YtgphkfnobmponaaGreatG43
import Derived.Test.YtgphkfnobmponaaGreatG25
import Derived.Test.YtgphkfnobmponaaGreatG17
import Derived.Test.YtgphkfnobmponaaGreatG36
import Derived.Test.YtgphkfnobmponaaGreatG06
import Derived.Test.YtgphkfnobmponaaGreatWx
import Derived.Test.YtgphkfnobmponaaGreatNi
/- Contract of l07From: a notation of a kind. -/
namespace Go.Proofs.YtgphkfnobmponaaGreat
open Go.RowKit
set_option linter.unusedVariables false

/-- The value of a notation. -/
def ntV (x : Note) (s : Six) : Value := .agg #[.int .i64 x.1, .slice s.A x.2.1.length s.c, .slice s.A2 x.2.2.1.length s.c2, .slice s.A3 x.2.2.2.1.length s.c3, .slice s.A4 x.2.2.2.2.1.length s.c4, .slice s.A5 x.2.2.2.2.2.length s.c5]
/-- A notation whose lists are the call's own; its pattern or its beats are nil. -/
def NtDr (B : Nat) (w : World) (x : Note) (s : Six) : Prop :=
  w.ownsRow B 2 1 (.slice s.A x.2.1.length s.c) x.2.1.length (ints x.2.1) ∧ Grid w B w.heap.size (.slice s.A2 x.2.2.1.length s.c2) x.2.2.1 ∧
  w.ownsRow B 95 4 (.slice s.A3 x.2.2.2.1.length s.c3) x.2.2.2.1.length (bts x.2.2.2.1) ∧
  w.ownsRow B 83 2 (.slice s.A4 x.2.2.2.2.1.length s.c4) x.2.2.2.2.1.length (ths x.2.2.2.2.1) ∧
  w.ownsRow B 83 2 (.slice s.A5 x.2.2.2.2.2.length s.c5) x.2.2.2.2.2.length (ths x.2.2.2.2.2) ∧
  ((x.2.2.1 = [] ∧ s.A2 = none ∧ s.c2 = 0) ∨ (x.2.1 = [] ∧ s.A = none ∧ s.c = 0))
section
variable {B : Nat} {w : World} {k : Int}
theorem NtDr.p {A : Option Addr} {c : Nat} {p : List Int} (h : w.ownsRow B 2 1 (.slice A p.length c) p.length (ints p)) : NtDr B w (k, p, [], [], ([], [])) ⟨A, c, none, 0, none, 0, none, 0, none, 0⟩ :=
  ⟨h, Grid.nil _ _ _, World.ownsRow_nil _ _ _ _, World.ownsRow_nil _ _ _ _, World.ownsRow_nil _ _ _ _, .inl ⟨rfl, rfl, rfl⟩⟩
theorem NtDr.m {A : Option Addr} {c : Nat} {p : List (List Int)} (h : Grid w B w.heap.size (.slice A p.length c) p) : NtDr B w (k, [], p, [], ([], [])) ⟨none, 0, A, c, none, 0, none, 0, none, 0⟩ :=
  ⟨World.ownsRow_nil _ _ _ _, h, World.ownsRow_nil _ _ _ _, World.ownsRow_nil _ _ _ _, World.ownsRow_nil _ _ _ _, .inr ⟨rfl, rfl, rfl⟩⟩
theorem NtDr.s {A : Option Addr} {c : Nat} {p : List Beat} (h : w.ownsRow B 95 4 (.slice A p.length c) p.length (bts p)) : NtDr B w (k, [], [], p, ([], [])) ⟨none, 0, none, 0, A, c, none, 0, none, 0⟩ :=
  ⟨World.ownsRow_nil _ _ _ _, Grid.nil _ _ _, h, World.ownsRow_nil _ _ _ _, World.ownsRow_nil _ _ _ _, .inl ⟨rfl, rfl, rfl⟩⟩
theorem NtDr.q {A A' : Option Addr} {c c' : Nat} {p p' : List PT} (h : w.ownsRow B 83 2 (.slice A p.length c) p.length (ths p)) (h' : w.ownsRow B 83 2 (.slice A' p'.length c') p'.length (ths p')) : NtDr B w (k, [], [], [], (p, p')) ⟨none, 0, none, 0, none, 0, A, c, A', c'⟩ :=
  ⟨World.ownsRow_nil _ _ _ _, Grid.nil _ _ _, World.ownsRow_nil _ _ _ _, h, h', .inl ⟨rfl, rfl, rfl⟩⟩
end
def FrRes (B : Nat) (w : World) (e : Ending) : Prop := ∃ (x : Note) (s : Six) (str : ByteArray) (code : Int), e = .returned (.tuple #[ntV x s, .string str, .int .i64 code]) ∧ NtSm x ∧ x.2.2.2.2.2.length ≤ x.2.2.2.2.1.length ∧ NtDr B w x s
theorem prP_le : ∀ l : List Int, (prP l).length ≤ l.length
  | [] => by simp [prP]
  | [_] => by simp [prP]
  | a :: b :: r => by rw [prP, List.length_cons, List.length_cons, List.length_cons]; have := prP_le r; omega
theorem rPair_le (q : List Int) : (rPair q).1.length ≤ 12 := by
  unfold rPair
  split
  · split
    · simp
    · split
      · have := prP_le (allP q); simp only; omega
      · simp
  · simp
theorem tot_sing (p : List Int) : tot (rSing p) = p.length := by
  induction p with
  | nil => rfl
  | cons x p ih =>
    show ([x] : List Int).length + tot (rSing p) = _
    rw [ih, List.length_cons]; simp; omega
theorem rTog_le (p : List Int) : (rTogetherOf p p).1.1.length ≤ p.length ∧ (rTogetherOf p p).1.2.length ≤ (rTogetherOf p p).1.1.length := by
  unfold rTogetherOf
  split
  · split
    · split
      · simp [selfs_len]
      · simp
    · simp
  · simp
set_option maxRecDepth 100000 in
set_option maxHeartbeats 2000000 in
theorem l07From_1 (A : Option Addr) (n c B : Nat) (p : List Int) (w : World) (hl : p.length = n) (hn : n ≤ 1000) (hBw : B ≤ w.heap.size) (ho : w.ownsRow B 2 1 (.slice A n c) n (ints p)) :
    Calls Tryz.prog 97 #[.slice A n c, .int .i64 1] w fun e w' => FrRes B w' e ∧ Below w.heap.size w w' := by
  have hX2 := (Bx.new w 33 (zN 0)).alloc (Obj.cells (zN 1) 33)
  have hX4 := Bx.new (w.alloc (Obj.cells (zN 0) 33)) 33 (zN 1)
  have hz : (w.alloc (Obj.cells (zN 0) 33)).heap.size = w.heap.size + 1 := by simp
  have hz2 : ((w.alloc (Obj.cells (zN 0) 33)).alloc (Obj.cells (zN 1) 33)).heap.size = w.heap.size + 2 := by simp
  have hb0 : Below w.heap.size w ((w.alloc (Obj.cells (zN 0) 33)).alloc (Obj.cells (zN 1) 33)) := (by repeat' (first | exact Below.refl _ _ | (with_reducible first | assumption | exact Nat.le_refl _ | refine Below.alloc ?_ ?_ _ | refine Below.setCell ?_ ?_ _ | refine Below.drew ?_ | refine below_drewN ?_ _) | refine Below.trans ?_ (Below.mono (by assumption) ?_) | exact Below.size (by assumption) | omega | go_size | (simp at *; omega)))
  rw [hz] at hX4
  have hr := ((Rd.of_own ho).below hb0 (Nat.le_refl _)).more hb0.size
  have hO := own_below ho hb0
  unfold zN at hX2 hX4 hz hz2 hb0 hO
  obtain ⟨w1, hw1⟩ : ∃ w1, (w.alloc (Obj.cells #[.int .i64 0, .slice none 0 0, .slice none 0 0, .slice none 0 0, .slice none 0 0, .slice none 0 0] 33)).alloc (Obj.cells #[.int .i64 1, .slice none 0 0, .slice none 0 0, .slice none 0 0, .slice none 0 0, .slice none 0 0] 33) = w1 := ⟨_, rfl⟩
  have hne1 : B ≤ w.heap.size := hBw
  have HO := hid ho
  have HL := hid hl
  have hsm : Hid (NtSm (1, p, [], [], ([], []))) := ⟨by show p.length ≤ 2000000; omega, ⟨by simp, fun r h => by simp at h, by simp [tot]⟩, by simp, by simp, by simp⟩
  have hRes : Hid (∀ W : World, W.ownsRow B 2 1 (.slice A n c) n (ints p) → FrRes B W (.returned (.tuple #[.agg #[.int .i64 1, .slice A n c, .slice none 0 0, .slice none 0 0, .slice none 0 0, .slice none 0 0], .string ⟨#[]⟩, .int .i64 0]))) := by
    subst hl
    exact hid fun W h => ⟨_, _, _, _, rfl, hsm.out, Nat.le_refl _, NtDr.p h⟩
  have HX2 := hid hX2
  have HX4 := hid hX4
  clear hX2 hX4 hz hz2 hb0 hr hO ho hw1 hl
  go_enter Tryz.func97, Tryz.ntmps97
  go_wp2
  refine bodyPost_ret (v := .tuple #[.agg #[.int .i64 1, .slice A n c, .slice none 0 0, .slice none 0 0, .slice none 0 0, .slice none 0 0], .string ⟨#[]⟩, .int .i64 0]) ?_ rfl ?_
  · simp (maxDischargeDepth := 8) [results, Tryz.results97, go_sem, *]
  exact ⟨hRes.out _ ((HO.out.alloc _).alloc _), (by repeat' (first | exact Below.refl _ _ | (with_reducible first | assumption | exact Nat.le_refl _ | refine Below.alloc ?_ ?_ _ | refine Below.setCell ?_ ?_ _ | refine Below.drew ?_ | refine below_drewN ?_ _) | refine Below.trans ?_ (Below.mono (by assumption) ?_) | exact Below.size (by assumption) | omega | go_size | (simp at *; omega)))⟩
set_option maxRecDepth 100000 in
set_option maxHeartbeats 2000000 in
theorem l07From_2 (A : Option Addr) (n c B : Nat) (p : List Int) (w : World) (hl : p.length = n) (hn : n ≤ 1000) (hBw : B ≤ w.heap.size) (ho : w.ownsRow B 2 1 (.slice A n c) n (ints p)) :
    Calls Tryz.prog 97 #[.slice A n c, .int .i64 2] w fun e w' => FrRes B w' e ∧ Below w.heap.size w w' := by
  have hX2 := (Bx.new w 33 (zN 0)).alloc (Obj.cells (zN 2) 33)
  have hX4 := Bx.new (w.alloc (Obj.cells (zN 0) 33)) 33 (zN 2)
  have hz : (w.alloc (Obj.cells (zN 0) 33)).heap.size = w.heap.size + 1 := by simp
  have hz2 : ((w.alloc (Obj.cells (zN 0) 33)).alloc (Obj.cells (zN 2) 33)).heap.size = w.heap.size + 2 := by simp
  have hb0 : Below w.heap.size w ((w.alloc (Obj.cells (zN 0) 33)).alloc (Obj.cells (zN 2) 33)) := (by repeat' (first | exact Below.refl _ _ | (with_reducible first | assumption | exact Nat.le_refl _ | refine Below.alloc ?_ ?_ _ | refine Below.setCell ?_ ?_ _ | refine Below.drew ?_ | refine below_drewN ?_ _) | refine Below.trans ?_ (Below.mono (by assumption) ?_) | exact Below.size (by assumption) | omega | go_size | (simp at *; omega)))
  rw [hz] at hX4
  have hr := ((Rd.of_own ho).below hb0 (Nat.le_refl _)).more hb0.size
  have hC := l04Single_any A n c p ((w.alloc (Obj.cells (zN 0) 33)).alloc (Obj.cells (zN 2) 33)) (by omega) hr
  unfold zN at hX2 hX4 hz hz2 hb0 hC
  have hC := hid hC
  have HZ2 := hid hz2
  have HB0 := hid hb0
  have HL := hid hl
  clear hz hz2 hr ho hl hb0
  go_enter Tryz.func97, Tryz.ntmps97
  go_wp2_with fail
  refine hC.out.mono ?_
  rintro e w1 ⟨⟨A2, c2, rfl, hG⟩, hb1⟩
  have hX2 := hX2.below hb1 hX2.lt
  have hX4 := hX4.below hb1 hX4.lt
  have z1 := hb1.size
  have hB1 := bchain HB0.out hb1
  clear hC hb1
  rw [HZ2.out] at hG z1
  obtain ⟨M, hM⟩ : ∃ M, (rSing p).length = M := ⟨_, rfl⟩
  have hsm : Hid (NtSm (2, [], rSing p, [], ([], []))) := ⟨by simp, ⟨by show (rSing p).length ≤ _; rw [rSing_len, HL.out]; omega, fun r h => by obtain ⟨x, _, rfl⟩ := List.mem_map.1 h; simp, by show tot (rSing p) ≤ _; rw [tot_sing, HL.out]; omega⟩, by simp, by simp, by simp⟩
  have hRes : Hid (∀ W : World, Grid W B W.heap.size (.slice A2 M c2) (rSing p) → FrRes B W (.returned (.tuple #[.agg #[.int .i64 2, .slice none 0 0, .slice A2 M c2, .slice none 0 0, .slice none 0 0, .slice none 0 0], .string ⟨#[]⟩, .int .i64 0]))) := by
    subst hM
    exact hid fun W h => ⟨_, _, _, _, rfl, hsm.out, Nat.le_refl _, NtDr.m h⟩
  rw [hM] at hG ⊢
  have HO := hid hG
  clear hG hM
  obtain ⟨⟨a0, a1, a2, a3, a4, a5⟩, ⟨b0, b1, b2, b3, b4, b5⟩⟩ := zc hX2
  obtain ⟨⟨e0, e1, e2, e3, e4, e5⟩, ⟨d0, d1, d2, d3, d4, d5⟩⟩ := zc hX4
  clear hX2 hX4
  go_wp2
  refine bodyPost_ret (v := .tuple #[.agg #[.int .i64 2, .slice none 0 0, .slice A2 M c2, .slice none 0 0, .slice none 0 0, .slice none 0 0], .string ⟨#[]⟩, .int .i64 0]) ?_ rfl ?_
  · simp (maxDischargeDepth := 8) [results, Tryz.results97, go_sem, *]
  refine ⟨hRes.out _ (Grid.size (M := w1.heap.size) (Grid.more (base := w.heap.size + 2) ?_ (by omega))), (by repeat' (first | (with_reducible exact hB1) | (with_reducible refine Below.setCell ?_ ?_ _) | (with_reducible refine Below.alloc ?_ ?_ _) | exact Nat.le_refl _ | exact Nat.le_succ _ | (show w.heap.size ≤ _; omega)))⟩
  repeat' (first | (with_reducible exact HO.out) | (with_reducible refine Grid.setk ?_ ?_ _) | (show w.heap.size < _; omega) | (show w.heap.size + 1 < _; omega))
set_option maxRecDepth 100000 in
set_option maxHeartbeats 2000000 in
theorem l07From_3 (A : Option Addr) (n c B : Nat) (p : List Int) (w : World) (hl : p.length = n) (hn : n ≤ 1000) (hBw : B ≤ w.heap.size) (ho : w.ownsRow B 2 1 (.slice A n c) n (ints p)) :
    Calls Tryz.prog 97 #[.slice A n c, .int .i64 3] w fun e w' => FrRes B w' e ∧ Below w.heap.size w w' := by
  have hX2 := (Bx.new w 33 (zN 0)).alloc (Obj.cells (zN 3) 33)
  have hX4 := Bx.new (w.alloc (Obj.cells (zN 0) 33)) 33 (zN 3)
  have hz : (w.alloc (Obj.cells (zN 0) 33)).heap.size = w.heap.size + 1 := by simp
  have hz2 : ((w.alloc (Obj.cells (zN 0) 33)).alloc (Obj.cells (zN 3) 33)).heap.size = w.heap.size + 2 := by simp
  have hb0 : Below w.heap.size w ((w.alloc (Obj.cells (zN 0) 33)).alloc (Obj.cells (zN 3) 33)) := (by repeat' (first | exact Below.refl _ _ | (with_reducible first | assumption | exact Nat.le_refl _ | refine Below.alloc ?_ ?_ _ | refine Below.setCell ?_ ?_ _ | refine Below.drew ?_ | refine below_drewN ?_ _) | refine Below.trans ?_ (Below.mono (by assumption) ?_) | exact Below.size (by assumption) | omega | go_size | (simp at *; omega)))
  rw [hz] at hX4
  have hr := ((Rd.of_own ho).below hb0 (Nat.le_refl _)).more hb0.size
  have hC := specPairUp_any A n c p ((w.alloc (Obj.cells (zN 0) 33)).alloc (Obj.cells (zN 3) 33)) (by omega) hr
  unfold zN at hX2 hX4 hz hz2 hb0 hC
  have hC := hid hC
  have HZ2 := hid hz2
  have HB0 := hid hb0
  have HL := hid hl
  clear hz hz2 hr ho hl hb0
  go_enter Tryz.func97, Tryz.ntmps97
  go_wp2_with fail
  refine hC.out.mono ?_
  rintro e w1 ⟨⟨A2, c2, hA2, rfl, hG⟩, hb1⟩
  have hX2 := hX2.below hb1 hX2.lt
  have hX4 := hX4.below hb1 hX4.lt
  have z1 := hb1.size
  have hB1 := bchain HB0.out hb1
  clear hC hb1
  rw [HZ2.out] at hG z1
  obtain ⟨⟨yy, cd⟩, hM⟩ : ∃ r, rPair p = r := ⟨_, rfl⟩
  have hle := rPair_le p
  rw [hM] at hG hle ⊢
  simp only at hG hle ⊢
  have hsm : Hid (NtSm (3, [], [], yy, ([], []))) := ⟨by simp, ⟨by simp, fun r h => by simp at h, by simp [tot]⟩, by show yy.length ≤ _; omega, by simp, by simp⟩
  have hRes : Hid (∀ (W : World) (T : ByteArray), W.ownsRow B 95 4 (.slice A2 yy.length c2) yy.length (bts yy) → FrRes B W (.returned (.tuple #[.agg #[.int .i64 3, .slice none 0 0, .slice none 0 0, .slice A2 yy.length c2, .slice none 0 0, .slice none 0 0], .string T, .int .i64 cd]))) :=
    hid fun W T h => ⟨_, _, _, _, rfl, hsm.out, Nat.le_refl _, NtDr.s h⟩
  have HO := hid hG
  clear hG hM hle hA2
  obtain ⟨⟨a0, a1, a2, a3, a4, a5⟩, ⟨b0, b1, b2, b3, b4, b5⟩⟩ := zc hX2
  obtain ⟨⟨e0, e1, e2, e3, e4, e5⟩, ⟨d0, d1, d2, d3, d4, d5⟩⟩ := zc hX4
  clear hX2 hX4
  go_wp2
  refine bodyPost_ret (v := .tuple #[.agg #[.int .i64 3, .slice none 0 0, .slice none 0 0, .slice A2 yy.length c2, .slice none 0 0, .slice none 0 0], .string ⟨#[116, 105, 109, 105, 110, 103]⟩, .int .i64 cd]) ?_ rfl ?_
  · simp (maxDischargeDepth := 8) [results, Tryz.results97, go_sem, *]
  refine ⟨hRes.out _ _ (own_more (base := w.heap.size + 2) ?_ (by omega)), (by repeat' (first | (with_reducible exact hB1) | (with_reducible refine Below.setCell ?_ ?_ _) | (with_reducible refine Below.alloc ?_ ?_ _) | exact Nat.le_refl _ | exact Nat.le_succ _ | (show w.heap.size ≤ _; omega)))⟩
  repeat' (first | (with_reducible exact HO.out) | (with_reducible refine own_setq ?_ ?_ _) | (show w.heap.size < _; omega) | (show w.heap.size + 1 < _; omega))
set_option maxRecDepth 100000 in
set_option maxHeartbeats 2000000 in
theorem l07From_4 (A : Option Addr) (n c B : Nat) (p : List Int) (w : World) (hl : p.length = n) (hn : n ≤ 1000) (hBw : B ≤ w.heap.size) (ho : w.ownsRow B 2 1 (.slice A n c) n (ints p)) :
    Calls Tryz.prog 97 #[.slice A n c, .int .i64 4] w fun e w' => FrRes B w' e ∧ Below w.heap.size w w' := by
  have hX2 := (Bx.new w 33 (zN 0)).alloc (Obj.cells (zN 4) 33)
  have hX4 := Bx.new (w.alloc (Obj.cells (zN 0) 33)) 33 (zN 4)
  have hz : (w.alloc (Obj.cells (zN 0) 33)).heap.size = w.heap.size + 1 := by simp
  have hz2 : ((w.alloc (Obj.cells (zN 0) 33)).alloc (Obj.cells (zN 4) 33)).heap.size = w.heap.size + 2 := by simp
  have hb0 : Below w.heap.size w ((w.alloc (Obj.cells (zN 0) 33)).alloc (Obj.cells (zN 4) 33)) := (by repeat' (first | exact Below.refl _ _ | (with_reducible first | assumption | exact Nat.le_refl _ | refine Below.alloc ?_ ?_ _ | refine Below.setCell ?_ ?_ _ | refine Below.drew ?_ | refine below_drewN ?_ _) | refine Below.trans ?_ (Below.mono (by assumption) ?_) | exact Below.size (by assumption) | omega | go_size | (simp at *; omega)))
  rw [hz] at hX4
  have hr := ((Rd.of_own ho).below hb0 (Nat.le_refl _)).more hb0.size
  have hC := specTogetherOf_any A A n c n c p p ((w.alloc (Obj.cells (zN 0) 33)).alloc (Obj.cells (zN 4) 33)) (by omega) (by omega) hr hr
  unfold zN at hX2 hX4 hz hz2 hb0 hC
  have hC := hid hC
  have HZ2 := hid hz2
  have HB0 := hid hb0
  have HL := hid hl
  clear hz hz2 hr ho hl hb0
  go_enter Tryz.func97, Tryz.ntmps97
  go_wp2_with fail
  refine hC.out.mono ?_
  rintro e w1 ⟨⟨A2, c2, A3, c3, hA2, hA3, rfl, hG, hG3, hap⟩, hb1⟩
  have hX2 := hX2.below hb1 hX2.lt
  have hX4 := hX4.below hb1 hX4.lt
  have z1 := hb1.size
  have hB1 := bchain HB0.out hb1
  clear hC hb1
  rw [HZ2.out] at hG hG3 z1
  obtain ⟨⟨⟨q1, q2⟩, cd⟩, hM⟩ : ∃ r, rTogetherOf p p = r := ⟨_, rfl⟩
  have hle := rTog_le p
  rw [hM] at hG hG3 hle ⊢
  simp only at hG hG3 hle ⊢
  have hsm : Hid (NtSm (4, [], [], [], (q1, q2))) := ⟨by simp, ⟨by simp, fun r h => by simp at h, by simp [tot]⟩, by simp, by show q1.length ≤ _; have := HL.out; omega, by show q2.length ≤ _; have := HL.out; omega⟩
  have hle2 := hid hle.2
  have hRes : Hid (∀ (W : World), W.ownsRow B 83 2 (.slice A2 q1.length c2) q1.length (ths q1) → W.ownsRow B 83 2 (.slice A3 q2.length c3) q2.length (ths q2) → FrRes B W (.returned (.tuple #[.agg #[.int .i64 4, .slice none 0 0, .slice none 0 0, .slice none 0 0, .slice A2 q1.length c2, .slice A3 q2.length c3], .string ⟨#[]⟩, .int .i64 cd]))) :=
    hid fun W h h' => ⟨_, _, _, _, rfl, hsm.out, hle2.out, NtDr.q h h'⟩
  have HO := hid hG
  have HO' := hid hG3
  clear hG hG3 hM hle hA2 hA3 hap
  have hb2 : Below w1.heap.size w1 (w1.alloc (Obj.cells #[.slice A2 q1.length c2, .slice A3 q2.length c3] 31)) := (by repeat' (first | exact Below.refl _ _ | (with_reducible first | assumption | exact Nat.le_refl _ | refine Below.alloc ?_ ?_ _ | refine Below.setCell ?_ ?_ _ | refine Below.drew ?_ | refine below_drewN ?_ _) | refine Below.trans ?_ (Below.mono (by assumption) ?_) | exact Below.size (by assumption) | omega | go_size | (simp at *; omega)))
  have KX := hid (hX2.below hb2 hX2.lt)
  have KY := hid (hX4.below hb2 hX4.lt)
  have KP := hid (Bx.new w1 31 #[.slice A2 q1.length c2, .slice A3 q2.length c3])
  have KB := hid (bchain hB1 hb2)
  have KO := hid (own_below HO.out hb2)
  have KO' := hid (own_below HO'.out hb2)
  have hw1 : w.heap.size + 1 < w1.heap.size := hX4.lt
  clear hX2 hX4 hb2 HO HO' hB1
  go_upto_region 14 with fail
  obtain ⟨w2, hw2⟩ : ∃ w2, w1.alloc (Obj.cells #[.slice A2 q1.length c2, .slice A3 q2.length c3] 31) = w2 := ⟨_, rfl⟩
  rw [hw2] at KX KY KP KB KO KO' ⊢
  clear hw2
  have p0 := bx_p0 KP.out
  have p1 := bx_p1 KP.out
  obtain ⟨⟨e0, e1, e2, e3, e4, e5⟩, ⟨d0, d1, d2, d3, d4, d5⟩⟩ := zc KY.out
  have LX := hid (KX.out.far (p := ⟨w.heap.size + 1, 4, none⟩) (by show w.heap.size ≠ w.heap.size + 1; omega) (.slice A2 q1.length c2) |>.far (p := ⟨w.heap.size + 1, 5, none⟩) (by show w.heap.size ≠ w.heap.size + 1; omega) (.slice A3 q2.length c3))
  have LY := hid ((KY.out.set_ 4 (.slice A2 q1.length c2)).set_ 5 (.slice A3 q2.length c3))
  have LB := hid ((KB.out.setCell (p := ⟨w.heap.size + 1, 4, none⟩) (by show w.heap.size ≤ w.heap.size + 1; omega) (.slice A2 q1.length c2)).setCell (p := ⟨w.heap.size + 1, 5, none⟩) (by show w.heap.size ≤ w.heap.size + 1; omega) (.slice A3 q2.length c3))
  have LO := hid (own_setq (own_setq KO.out (p := ⟨w.heap.size + 1, 4, none⟩) (by show w.heap.size + 1 < w.heap.size + 2; omega) (.slice A2 q1.length c2)) (p := ⟨w.heap.size + 1, 5, none⟩) (by show w.heap.size + 1 < w.heap.size + 2; omega) (.slice A3 q2.length c3))
  have LO' := hid (own_setq (own_setq KO'.out (p := ⟨w.heap.size + 1, 4, none⟩) (by show w.heap.size + 1 < w.heap.size + 2; omega) (.slice A2 q1.length c2)) (p := ⟨w.heap.size + 1, 5, none⟩) (by show w.heap.size + 1 < w.heap.size + 2; omega) (.slice A3 q2.length c3))
  clear KX KY KP KB KO KO'
  go_upto_region 15 with fail
  obtain ⟨w3, hw3⟩ : ∃ w3, (w2.setCell ⟨w.heap.size + 1, 4, none⟩ (.slice A2 q1.length c2)).setCell ⟨w.heap.size + 1, 5, none⟩ (.slice A3 q2.length c3) = w3 := ⟨_, rfl⟩
  rw [hw3] at LX LY LB LO LO' ⊢
  clear hw3 p0 p1 e0 e1 e2 e3 e4 e5 d0 d1 d2 d3 d4 d5
  have LY : Hid (Bx w3 (w.heap.size + 1) 33 #[.int .i64 4, .slice none 0 0, .slice none 0 0, .slice none 0 0, .slice A2 q1.length c2, .slice A3 q2.length c3]) := LY.out
  obtain ⟨⟨a0, a1, a2, a3, a4, a5⟩, ⟨b0, b1, b2, b3, b4, b5⟩⟩ := zc LX.out
  obtain ⟨⟨e0, e1, e2, e3, e4, e5⟩, -⟩ := zc LY.out
  have hB1 := LB.out
  go_wp2
  refine bodyPost_ret (v := .tuple #[.agg #[.int .i64 4, .slice none 0 0, .slice none 0 0, .slice none 0 0, .slice A2 q1.length c2, .slice A3 q2.length c3], .string ⟨#[]⟩, .int .i64 cd]) ?_ rfl ?_
  · simp (maxDischargeDepth := 8) [results, Tryz.results97, go_sem, *]
  refine ⟨hRes.out _ (own_more (base := w.heap.size + 2) ?_ (by omega)) (own_more (base := w.heap.size + 2) ?_ (by omega)), (by repeat' (first | (with_reducible exact hB1) | (with_reducible refine Below.setCell ?_ ?_ _) | (with_reducible refine Below.alloc ?_ ?_ _) | exact Nat.le_refl _ | exact Nat.le_succ _ | (show w.heap.size ≤ _; omega)))⟩
  all_goals repeat' (first | (with_reducible exact LO.out) | (with_reducible exact LO'.out) | (with_reducible refine own_setq ?_ ?_ _) | (show w.heap.size < _; omega) | (show w.heap.size + 1 < _; omega))
end Go.Proofs.YtgphkfnobmponaaGreat
