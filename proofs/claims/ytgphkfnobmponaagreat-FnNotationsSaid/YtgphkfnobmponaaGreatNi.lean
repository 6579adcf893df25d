/- The text: Ni. -/
import Derived.Test.YtgphkfnobmponaaGreatG43
import Derived.Test.YtgphkfnobmponaaGreatG21
/- Contracts of the readers of notations: ReadNotation, l07Read. -/
namespace Go.Proofs.YtgphkfnobmponaaGreat
open Go.RowKit
set_option linter.unusedVariables false

def rPl (l : List UInt8) : List Int := if okP (rdDig l) then rdDig l else []
def partN (l : List UInt8) : Note :=
  if kinR l = 1 then (1, rPl l, [], [], ([], [])) else if kinR l = 2 then (2, [], (rReadMulti l).1, [], ([], []))
  else if kinR l = 3 then (3, [], [], (rReadSync l).1, ([], [])) else (4, [], [], [], (rReadPassing l).1)
def rReadNotation (l : List UInt8) : Note × Bool := if 200 < l.length then (noNote, false) else if noteR l then (partN l, true) else (noNote, false)
/-- All lists but one are nil. -/
def NtOne (x : Note) (s : Six) : Prop :=
  (x.2.2 = ([], [], ([], [])) ∧ s.A2 = none ∧ s.c2 = 0 ∧ s.A3 = none ∧ s.c3 = 0 ∧ s.A4 = none ∧ s.c4 = 0 ∧ s.A5 = none ∧ s.c5 = 0) ∨
  (x.2.1 = [] ∧ x.2.2.2 = ([], ([], [])) ∧ s.A = none ∧ s.c = 0 ∧ s.A3 = none ∧ s.c3 = 0 ∧ s.A4 = none ∧ s.c4 = 0 ∧ s.A5 = none ∧ s.c5 = 0) ∨
  (x.2.1 = [] ∧ x.2.2.1 = [] ∧ x.2.2.2.2 = ([], []) ∧ s.A = none ∧ s.c = 0 ∧ s.A2 = none ∧ s.c2 = 0 ∧ s.A4 = none ∧ s.c4 = 0 ∧ s.A5 = none ∧ s.c5 = 0) ∨
  (x.2.1 = [] ∧ x.2.2.1 = [] ∧ x.2.2.2.1 = [] ∧ s.A = none ∧ s.c = 0 ∧ s.A2 = none ∧ s.c2 = 0 ∧ s.A3 = none ∧ s.c3 = 0 ∧ Rise (.slice s.A4 x.2.2.2.2.1.length s.c4) (.slice s.A5 x.2.2.2.2.2.length s.c5))
/-- A notation of the call's own, and a yes or no. -/
def NtRes (B : Nat) (r : Note × Bool) (e : Ending) (w : World) : Prop := ∃ A c A2 c2 A3 c3 A4 c4 A5 c5,
  e = .returned (.tuple #[.agg #[.int .i64 r.1.1, .slice A r.1.2.1.length c, .slice A2 r.1.2.2.1.length c2, .slice A3 r.1.2.2.2.1.length c3, .slice A4 r.1.2.2.2.2.1.length c4, .slice A5 r.1.2.2.2.2.2.length c5], .bool r.2]) ∧
  w.ownsRow B 2 1 (.slice A r.1.2.1.length c) r.1.2.1.length (ints r.1.2.1) ∧ Grid w B w.heap.size (.slice A2 r.1.2.2.1.length c2) r.1.2.2.1 ∧
  w.ownsRow B 95 4 (.slice A3 r.1.2.2.2.1.length c3) r.1.2.2.2.1.length (bts r.1.2.2.2.1) ∧
  w.ownsRow B 83 2 (.slice A4 r.1.2.2.2.2.1.length c4) r.1.2.2.2.2.1.length (ths r.1.2.2.2.2.1) ∧
  w.ownsRow B 83 2 (.slice A5 r.1.2.2.2.2.2.length c5) r.1.2.2.2.2.2.length (ths r.1.2.2.2.2.2) ∧ NtOne r.1 ⟨A, c, A2, c2, A3, c3, A4, c4, A5, c5⟩
theorem NtRes.no (B : Nat) (w : World) (b : Bool) : NtRes B (noNote, b) (.returned (.tuple #[.agg #[.int .i64 0, .slice none 0 0, .slice none 0 0, .slice none 0 0, .slice none 0 0, .slice none 0 0], .bool b])) w :=
  ⟨none, 0, none, 0, none, 0, none, 0, none, 0, rfl, World.ownsRow_nil _ _ _ _, Grid.nil _ _ _, World.ownsRow_nil _ _ _ _, World.ownsRow_nil _ _ _ _, World.ownsRow_nil _ _ _ _, (.inl ⟨rfl, rfl, rfl, rfl, rfl, rfl, rfl, rfl, rfl⟩)⟩
theorem NtRes.p {B : Nat} {w : World} {b : Bool} {A : Option Addr} {c : Nat} {p : List Int} (h : w.ownsRow B 2 1 (.slice A p.length c) p.length (ints p)) : NtRes B ((1, p, [], [], ([], [])), b) (.returned (.tuple #[.agg #[.int .i64 1, .slice A p.length c, .slice none 0 0, .slice none 0 0, .slice none 0 0, .slice none 0 0], .bool b])) w :=
  ⟨A, c, none, 0, none, 0, none, 0, none, 0, rfl, h, Grid.nil _ _ _, World.ownsRow_nil _ _ _ _, World.ownsRow_nil _ _ _ _, World.ownsRow_nil _ _ _ _, (.inl ⟨rfl, rfl, rfl, rfl, rfl, rfl, rfl, rfl, rfl⟩)⟩
theorem NtRes.m {B : Nat} {w : World} {b : Bool} {A : Option Addr} {c : Nat} {p : List (List Int)} (h : Grid w B w.heap.size (.slice A p.length c) p) : NtRes B ((2, [], p, [], ([], [])), b) (.returned (.tuple #[.agg #[.int .i64 2, .slice none 0 0, .slice A p.length c, .slice none 0 0, .slice none 0 0, .slice none 0 0], .bool b])) w :=
  ⟨none, 0, A, c, none, 0, none, 0, none, 0, rfl, World.ownsRow_nil _ _ _ _, h, World.ownsRow_nil _ _ _ _, World.ownsRow_nil _ _ _ _, World.ownsRow_nil _ _ _ _, (.inr (.inl ⟨rfl, rfl, rfl, rfl, rfl, rfl, rfl, rfl, rfl, rfl⟩))⟩
theorem NtRes.s {B : Nat} {w : World} {b : Bool} {A : Option Addr} {c : Nat} {p : List Beat} (h : w.ownsRow B 95 4 (.slice A p.length c) p.length (bts p)) : NtRes B ((3, [], [], p, ([], [])), b) (.returned (.tuple #[.agg #[.int .i64 3, .slice none 0 0, .slice none 0 0, .slice A p.length c, .slice none 0 0, .slice none 0 0], .bool b])) w :=
  ⟨none, 0, none, 0, A, c, none, 0, none, 0, rfl, World.ownsRow_nil _ _ _ _, Grid.nil _ _ _, h, World.ownsRow_nil _ _ _ _, World.ownsRow_nil _ _ _ _, (.inr (.inr (.inl ⟨rfl, rfl, rfl, rfl, rfl, rfl, rfl, rfl, rfl, rfl, rfl⟩)))⟩
theorem NtRes.q {B : Nat} {w : World} {b : Bool} {A A' : Option Addr} {c c' : Nat} {p : Psg} (h : w.ownsRow B 83 2 (.slice A p.1.length c) p.1.length (ths p.1)) (h' : w.ownsRow B 83 2 (.slice A' p.2.length c') p.2.length (ths p.2)) (hr : Rise (.slice A p.1.length c) (.slice A' p.2.length c')) : NtRes B ((4, [], [], [], p), b) (.returned (.tuple #[.agg #[.int .i64 4, .slice none 0 0, .slice none 0 0, .slice none 0 0, .slice A p.1.length c, .slice A' p.2.length c'], .bool b])) w :=
  ⟨none, 0, none, 0, none, 0, A, c, A', c', rfl, World.ownsRow_nil _ _ _ _, Grid.nil _ _ _, World.ownsRow_nil _ _ _ _, h, h', (.inr (.inr (.inr ⟨rfl, rfl, rfl, rfl, rfl, rfl, rfl, rfl, rfl, hr⟩)))⟩
theorem rRN_no {l : List UInt8} (hs : l.length ≤ 200) (h : noteR l = false) : rReadNotation l = (noNote, false) := by rw [rReadNotation, if_neg (by omega), h]; rfl
theorem rRN_yes {l : List UInt8} (hs : l.length ≤ 200) (h : noteR l = true) : rReadNotation l = (partN l, true) := by rw [rReadNotation, if_neg (by omega), h]; rfl
theorem noteR_1 {l : List UInt8} (h : kinR l = 1) : noteR l = okP (rdDig l) := by rw [noteR, if_pos h]
theorem noteR_2 {l : List UInt8} (h : kinR l = 2) : noteR l = (rReadMulti l).2 := by rw [noteR, if_neg (by omega), if_pos h]
theorem noteR_3 {l : List UInt8} (h : kinR l = 3) : noteR l = (rReadSync l).2 := by rw [noteR, if_neg (by omega), if_neg (by omega), if_pos h]
theorem noteR_4 {l : List UInt8} (h : kinR l = 4) : noteR l = (rReadPassing l).2 := by rw [noteR, if_neg (by omega), if_neg (by omega), if_neg (by omega)]
theorem partN_1 {l : List UInt8} (h : kinR l = 1) : partN l = (1, rPl l, [], [], ([], [])) := by rw [partN, if_pos h]
theorem partN_2 {l : List UInt8} (h : kinR l = 2) : partN l = (2, [], (rReadMulti l).1, [], ([], [])) := by rw [partN, if_neg (by omega), if_pos h]
theorem partN_3 {l : List UInt8} (h : kinR l = 3) : partN l = (3, [], [], (rReadSync l).1, ([], [])) := by rw [partN, if_neg (by omega), if_neg (by omega), if_pos h]
theorem partN_4 {l : List UInt8} (h : kinR l = 4) : partN l = (4, [], [], [], (rReadPassing l).1) := by rw [partN, if_neg (by omega), if_neg (by omega), if_neg (by omega)]
def zN (k : Int) : Array Value := #[.int .i64 k, .slice none 0 0, .slice none 0 0, .slice none 0 0, .slice none 0 0, .slice none 0 0]
set_option maxRecDepth 100000 in
set_option maxHeartbeats 2000000 in
theorem ReadNotation_1 (s : ByteArray) (w : World) (hs : s.size ≤ 200) (hk : kinR (tl s) = 1) :
    Calls Tryz.prog 7 #[.string s] w fun e w' => NtRes w.heap.size (rReadNotation (tl s)) e w' ∧ Below w.heap.size w w' := by
  have hK := hid (fun w1 => show Calls Tryz.prog 22 #[.string s] w1 fun e w' => e = .returned (.int .i64 1) ∧ w1 = w' from by have := KindOfText_any s w1 (by omega); rw [hk] at this; exact this)
  have hC := ReadPattern_any s (by omega) ((w.alloc (Obj.cells (zN 0) 33)).alloc (Obj.cells (zN 1) 33))
  have hX2 := (Bx.new w 33 (zN 0)).alloc (Obj.cells (zN 1) 33)
  have hX4 := Bx.new (w.alloc (Obj.cells (zN 0) 33)) 33 (zN 1)
  have hz : (w.alloc (Obj.cells (zN 0) 33)).heap.size = w.heap.size + 1 := by simp
  have hz2 : ((w.alloc (Obj.cells (zN 0) 33)).alloc (Obj.cells (zN 1) 33)).heap.size = w.heap.size + 2 := by simp
  rw [hz] at hX4
  have hr : (rReadPattern s).2 = noteR (tl s) := by rw [noteR_1 hk]; unfold rReadPattern; show _ = okP (rdDig s.data.toList); cases okP (rdDig s.data.toList) <;> rfl
  have hp : ((1, (rReadPattern s).1, [], [], ([], [])) : Note) = partN (tl s) := by rw [partN_1 hk]; unfold rReadPattern rPl; show _ = ((1, (if okP (rdDig s.data.toList) then rdDig s.data.toList else []), [], [], ([], [])) : Note); cases okP (rdDig s.data.toList) <;> rfl
  have HN := hid (fun h => rRN_no (l := tl s) (by rw [tl_len]; exact hs) h)
  have HY := hid (fun h => rRN_yes (l := tl s) (by rw [tl_len]; exact hs) h)
  rw [← hr, ← hp] at HY
  rw [← hr] at HN
  generalize rReadPattern s = rr at *
  obtain ⟨p, ok⟩ := rr
  unfold zN at hC hX2 hX4 hz hz2
  simp only at hC HY HN
  have hC := hid hC
  have HZ2 := hid hz2
  have hsI : ¬ (200 : Int) < (s.size : Int) := by omega
  clear hz hz2 hr hp hk
  go_enter Tryz.func7, Tryz.ntmps7
  go_wp2_with fail
  refine (hK.out _).mono ?_
  rintro e w1 ⟨rfl, rfl⟩
  go_wp2_with fail
  refine hC.out.mono ?_
  rintro e w1 ⟨v, rfl, ho, hb1⟩
  have hX2 := hX2.below hb1 hX2.lt
  have hX4 := hX4.below hb1 hX4.lt
  have z1 := hb1.size
  rw [HZ2.out] at z1 ho
  have hB1 : Below w.heap.size w w1 := (by repeat' (first | exact Below.refl _ _ | (with_reducible first | assumption | exact Nat.le_refl _ | refine Below.alloc ?_ ?_ _ | refine Below.setCell ?_ ?_ _ | refine Below.drew ?_ | refine below_drewN ?_ _) | refine Below.trans ?_ (Below.mono (by assumption) ?_) | exact Below.size (by assumption) | omega | go_size | (simp at *; omega)))
  obtain ⟨⟨a0, a1, a2, a3, a4, a5⟩, ⟨b0, b1, b2, b3, b4, b5⟩⟩ := zc hX2
  obtain ⟨⟨c0, c1, c2, c3, c4, c5⟩, ⟨d0, d1, d2, d3, d4, d5⟩⟩ := zc hX4
  obtain ⟨A, c, rfl⟩ := own_form ho
  have HO := hid ho
  clear hX2 hX4 hb1 hC hK ho
  cases ok
  · have HE := hid (HN.out rfl)
    clear HN HY
    go_wp2
    refine bodyPost_ret (v := .tuple #[.agg #[.int .i64 0, .slice none 0 0, .slice none 0 0, .slice none 0 0, .slice none 0 0, .slice none 0 0], .bool false]) ?_ rfl ?_
    · simp (maxDischargeDepth := 8) [results, Tryz.results7, go_sem, *]
    exact ⟨by rw [HE.out]; exact NtRes.no _ _ _, (by repeat' (first | (with_reducible exact hB1) | (with_reducible refine Below.setCell ?_ ?_ _) | exact Nat.le_refl _ | exact Nat.le_succ _))⟩
  · have HE := hid (HY.out rfl)
    clear HN HY
    go_wp2
    refine bodyPost_ret (v := .tuple #[.agg #[.int .i64 1, .slice A p.length c, .slice none 0 0, .slice none 0 0, .slice none 0 0, .slice none 0 0], .bool true]) ?_ rfl ?_
    · simp (maxDischargeDepth := 8) [results, Tryz.results7, go_sem, *]
    refine ⟨?_, (by repeat' (first | (with_reducible exact hB1) | (with_reducible refine Below.setCell ?_ ?_ _) | exact Nat.le_refl _ | exact Nat.le_succ _))⟩
    rw [HE.out]
    refine NtRes.p (own_more ?_ (show w.heap.size ≤ w.heap.size + 2 by omega))
    repeat' (first | (with_reducible exact HO.out) | (with_reducible refine own_set ?_ ?_ _) | (show w.heap.size < _; omega) | (show w.heap.size + 1 < _; omega))
set_option maxRecDepth 100000 in
set_option maxHeartbeats 2000000 in
theorem ReadNotation_2 (s : ByteArray) (w : World) (hs : s.size ≤ 200) (hk : kinR (tl s) = 2) :
    Calls Tryz.prog 7 #[.string s] w fun e w' => NtRes w.heap.size (rReadNotation (tl s)) e w' ∧ Below w.heap.size w w' := by
  have hK := hid (fun w1 => show Calls Tryz.prog 22 #[.string s] w1 fun e w' => e = .returned (.int .i64 2) ∧ w1 = w' from by have := KindOfText_any s w1 (by omega); rw [hk] at this; exact this)
  have hC := ReadMulti_any s ((w.alloc (Obj.cells (zN 0) 33)).alloc (Obj.cells (zN 2) 33)) (by omega)
  have hX2 := (Bx.new w 33 (zN 0)).alloc (Obj.cells (zN 2) 33)
  have hX4 := Bx.new (w.alloc (Obj.cells (zN 0) 33)) 33 (zN 2)
  have hz : (w.alloc (Obj.cells (zN 0) 33)).heap.size = w.heap.size + 1 := by simp
  have hz2 : ((w.alloc (Obj.cells (zN 0) 33)).alloc (Obj.cells (zN 2) 33)).heap.size = w.heap.size + 2 := by simp
  rw [hz] at hX4
  have hr : (rReadMulti (tl s)).2 = noteR (tl s) := (noteR_2 hk).symm
  have hp : ((2, [], (rReadMulti (tl s)).1, [], ([], [])) : Note) = partN (tl s) := (partN_2 hk).symm
  have HN := hid (fun h => rRN_no (l := tl s) (by rw [tl_len]; exact hs) h)
  have HY := hid (fun h => rRN_yes (l := tl s) (by rw [tl_len]; exact hs) h)
  rw [← hr, ← hp] at HY
  rw [← hr] at HN
  generalize rReadMulti (tl s) = rr at *
  obtain ⟨p, ok⟩ := rr
  unfold zN at hC hX2 hX4 hz hz2
  simp only at hC HY HN
  have hC := hid hC
  have HZ2 := hid hz2
  have hsI : ¬ (200 : Int) < (s.size : Int) := by omega
  clear hz hz2 hr hp hk
  go_enter Tryz.func7, Tryz.ntmps7
  go_wp2_with fail
  refine (hK.out _).mono ?_
  rintro e w1 ⟨rfl, rfl⟩
  go_wp2_with fail
  refine hC.out.mono ?_
  rintro e w1 ⟨⟨A, c, rfl, ho⟩, hb1⟩
  have hX2 := hX2.below hb1 hX2.lt
  have hX4 := hX4.below hb1 hX4.lt
  have z1 := hb1.size
  rw [HZ2.out] at z1 ho
  have hB1 : Below w.heap.size w w1 := (by repeat' (first | exact Below.refl _ _ | (with_reducible first | assumption | exact Nat.le_refl _ | refine Below.alloc ?_ ?_ _ | refine Below.setCell ?_ ?_ _ | refine Below.drew ?_ | refine below_drewN ?_ _) | refine Below.trans ?_ (Below.mono (by assumption) ?_) | exact Below.size (by assumption) | omega | go_size | (simp at *; omega)))
  obtain ⟨⟨a0, a1, a2, a3, a4, a5⟩, ⟨b0, b1, b2, b3, b4, b5⟩⟩ := zc hX2
  obtain ⟨⟨c0, c1, c2, c3, c4, c5⟩, ⟨d0, d1, d2, d3, d4, d5⟩⟩ := zc hX4
  have HO := hid ho
  clear hX2 hX4 hb1 hC hK ho
  cases ok
  · have HE := hid (HN.out rfl)
    clear HN HY
    go_wp2
    refine bodyPost_ret (v := .tuple #[.agg #[.int .i64 0, .slice none 0 0, .slice none 0 0, .slice none 0 0, .slice none 0 0, .slice none 0 0], .bool false]) ?_ rfl ?_
    · simp (maxDischargeDepth := 8) [results, Tryz.results7, go_sem, *]
    exact ⟨by rw [HE.out]; exact NtRes.no _ _ _, (by repeat' (first | (with_reducible exact hB1) | (with_reducible refine Below.setCell ?_ ?_ _) | exact Nat.le_refl _ | exact Nat.le_succ _))⟩
  · have HE := hid (HY.out rfl)
    clear HN HY
    go_wp2
    refine bodyPost_ret (v := .tuple #[.agg #[.int .i64 2, .slice none 0 0, .slice A p.length c, .slice none 0 0, .slice none 0 0, .slice none 0 0], .bool true]) ?_ rfl ?_
    · simp (maxDischargeDepth := 8) [results, Tryz.results7, go_sem, *]
    refine ⟨?_, (by repeat' (first | (with_reducible exact hB1) | (with_reducible refine Below.setCell ?_ ?_ _) | exact Nat.le_refl _ | exact Nat.le_succ _))⟩
    rw [HE.out]
    refine NtRes.m (Grid.size (M := w1.heap.size) (Grid.more (base := w.heap.size + 2) ?_ (by omega)))
    repeat' (first | (with_reducible exact HO.out) | (with_reducible refine Grid.setq ?_ ?_ _) | (show w.heap.size < _; omega) | (show w.heap.size + 1 < _; omega))
set_option maxRecDepth 100000 in
set_option maxHeartbeats 2000000 in
theorem ReadNotation_3 (s : ByteArray) (w : World) (hs : s.size ≤ 200) (hk : kinR (tl s) = 3) :
    Calls Tryz.prog 7 #[.string s] w fun e w' => NtRes w.heap.size (rReadNotation (tl s)) e w' ∧ Below w.heap.size w w' := by
  have hK := hid (fun w1 => show Calls Tryz.prog 22 #[.string s] w1 fun e w' => e = .returned (.int .i64 3) ∧ w1 = w' from by have := KindOfText_any s w1 (by omega); rw [hk] at this; exact this)
  have hC := ReadSync_any s ((w.alloc (Obj.cells (zN 0) 33)).alloc (Obj.cells (zN 3) 33)) (by omega)
  have hX2 := (Bx.new w 33 (zN 0)).alloc (Obj.cells (zN 3) 33)
  have hX4 := Bx.new (w.alloc (Obj.cells (zN 0) 33)) 33 (zN 3)
  have hz : (w.alloc (Obj.cells (zN 0) 33)).heap.size = w.heap.size + 1 := by simp
  have hz2 : ((w.alloc (Obj.cells (zN 0) 33)).alloc (Obj.cells (zN 3) 33)).heap.size = w.heap.size + 2 := by simp
  rw [hz] at hX4
  have hr : (rReadSync (tl s)).2 = noteR (tl s) := (noteR_3 hk).symm
  have hp : ((3, [], [], (rReadSync (tl s)).1, ([], [])) : Note) = partN (tl s) := (partN_3 hk).symm
  have HN := hid (fun h => rRN_no (l := tl s) (by rw [tl_len]; exact hs) h)
  have HY := hid (fun h => rRN_yes (l := tl s) (by rw [tl_len]; exact hs) h)
  rw [← hr, ← hp] at HY
  rw [← hr] at HN
  generalize rReadSync (tl s) = rr at *
  obtain ⟨p, ok⟩ := rr
  unfold zN at hC hX2 hX4 hz hz2
  simp only at hC HY HN
  have hC := hid hC
  have HZ2 := hid hz2
  have hsI : ¬ (200 : Int) < (s.size : Int) := by omega
  clear hz hz2 hr hp hk
  go_enter Tryz.func7, Tryz.ntmps7
  go_wp2_with fail
  refine (hK.out _).mono ?_
  rintro e w1 ⟨rfl, rfl⟩
  go_wp2_with fail
  refine hC.out.mono ?_
  rintro e w1 ⟨⟨A, c, hA, rfl, ho⟩, hb1⟩
  have hX2 := hX2.below hb1 hX2.lt
  have hX4 := hX4.below hb1 hX4.lt
  have z1 := hb1.size
  rw [HZ2.out] at z1 ho
  have hB1 : Below w.heap.size w w1 := (by repeat' (first | exact Below.refl _ _ | (with_reducible first | assumption | exact Nat.le_refl _ | refine Below.alloc ?_ ?_ _ | refine Below.setCell ?_ ?_ _ | refine Below.drew ?_ | refine below_drewN ?_ _) | refine Below.trans ?_ (Below.mono (by assumption) ?_) | exact Below.size (by assumption) | omega | go_size | (simp at *; omega)))
  obtain ⟨⟨a0, a1, a2, a3, a4, a5⟩, ⟨b0, b1, b2, b3, b4, b5⟩⟩ := zc hX2
  obtain ⟨⟨c0, c1, c2, c3, c4, c5⟩, ⟨d0, d1, d2, d3, d4, d5⟩⟩ := zc hX4
  have HO := hid ho
  clear hX2 hX4 hb1 hC hK ho hA
  cases ok
  · have HE := hid (HN.out rfl)
    clear HN HY
    go_wp2
    refine bodyPost_ret (v := .tuple #[.agg #[.int .i64 0, .slice none 0 0, .slice none 0 0, .slice none 0 0, .slice none 0 0, .slice none 0 0], .bool false]) ?_ rfl ?_
    · simp (maxDischargeDepth := 8) [results, Tryz.results7, go_sem, *]
    exact ⟨by rw [HE.out]; exact NtRes.no _ _ _, (by repeat' (first | (with_reducible exact hB1) | (with_reducible refine Below.setCell ?_ ?_ _) | exact Nat.le_refl _ | exact Nat.le_succ _))⟩
  · have HE := hid (HY.out rfl)
    clear HN HY
    go_wp2
    refine bodyPost_ret (v := .tuple #[.agg #[.int .i64 3, .slice none 0 0, .slice none 0 0, .slice A p.length c, .slice none 0 0, .slice none 0 0], .bool true]) ?_ rfl ?_
    · simp (maxDischargeDepth := 8) [results, Tryz.results7, go_sem, *]
    refine ⟨?_, (by repeat' (first | (with_reducible exact hB1) | (with_reducible refine Below.setCell ?_ ?_ _) | exact Nat.le_refl _ | exact Nat.le_succ _))⟩
    rw [HE.out]
    refine NtRes.s (own_more ?_ (show w.heap.size ≤ w.heap.size + 2 by omega))
    repeat' (first | (with_reducible exact HO.out) | (with_reducible refine own_set ?_ ?_ _) | (show w.heap.size < _; omega) | (show w.heap.size + 1 < _; omega))
set_option maxRecDepth 100000 in
set_option maxHeartbeats 2000000 in
theorem ReadNotation_4 (s : ByteArray) (w : World) (hs : s.size ≤ 200) (hk : kinR (tl s) = 4) :
    Calls Tryz.prog 7 #[.string s] w fun e w' => NtRes w.heap.size (rReadNotation (tl s)) e w' ∧ Below w.heap.size w w' := by
  have hK := hid (fun w1 => show Calls Tryz.prog 22 #[.string s] w1 fun e w' => e = .returned (.int .i64 4) ∧ w1 = w' from by have := KindOfText_any s w1 (by omega); rw [hk] at this; exact this)
  have hC := ReadPassing_any s ((w.alloc (Obj.cells (zN 0) 33)).alloc (Obj.cells (zN 4) 33)) (by omega)
  have hX2 := (Bx.new w 33 (zN 0)).alloc (Obj.cells (zN 4) 33)
  have hX4 := Bx.new (w.alloc (Obj.cells (zN 0) 33)) 33 (zN 4)
  have hz : (w.alloc (Obj.cells (zN 0) 33)).heap.size = w.heap.size + 1 := by simp
  have hz2 : ((w.alloc (Obj.cells (zN 0) 33)).alloc (Obj.cells (zN 4) 33)).heap.size = w.heap.size + 2 := by simp
  rw [hz] at hX4
  have hr : (rReadPassing (tl s)).2 = noteR (tl s) := (noteR_4 hk).symm
  have hp : ((4, [], [], [], (rReadPassing (tl s)).1) : Note) = partN (tl s) := (partN_4 hk).symm
  have HN := hid (fun h => rRN_no (l := tl s) (by rw [tl_len]; exact hs) h)
  have HY := hid (fun h => rRN_yes (l := tl s) (by rw [tl_len]; exact hs) h)
  rw [← hr, ← hp] at HY
  rw [← hr] at HN
  generalize rReadPassing (tl s) = rr at *
  obtain ⟨p, ok⟩ := rr
  unfold zN at hC hX2 hX4 hz hz2
  simp only at hC HY HN
  have hC := hid hC
  have HZ2 := hid hz2
  have hsI : ¬ (200 : Int) < (s.size : Int) := by omega
  clear hz hz2 hr hp hk
  go_enter Tryz.func7, Tryz.ntmps7
  go_wp2_with fail
  refine (hK.out _).mono ?_
  rintro e w1 ⟨rfl, rfl⟩
  go_wp2_with fail
  refine hC.out.mono ?_
  rintro e w1 ⟨⟨A, c, A', c', hA, hA', rfl, ho, ho'⟩, hb1⟩
  have hX2 := hX2.below hb1 hX2.lt
  have hX4 := hX4.below hb1 hX4.lt
  have z1 := hb1.size
  rw [HZ2.out] at z1 ho ho'
  have hB1 : Below w.heap.size w w1 := (by repeat' (first | exact Below.refl _ _ | (with_reducible first | assumption | exact Nat.le_refl _ | refine Below.alloc ?_ ?_ _ | refine Below.setCell ?_ ?_ _ | refine Below.drew ?_ | refine below_drewN ?_ _) | refine Below.trans ?_ (Below.mono (by assumption) ?_) | exact Below.size (by assumption) | omega | go_size | (simp at *; omega)))
  obtain ⟨⟨a0, a1, a2, a3, a4, a5⟩, ⟨b0, b1, b2, b3, b4, b5⟩⟩ := zc hX2
  obtain ⟨⟨c0, c1, c2, c3, c4, c5⟩, ⟨d0, d1, d2, d3, d4, d5⟩⟩ := zc hX4
  have HO := hid ho
  have HO' := hid ho'
  have HRS := hid hA'.2
  clear hX2 hX4 hb1 hC hK ho hA ho' hA'
  cases ok
  · have HE := hid (HN.out rfl)
    clear HN HY
    go_wp2
    refine bodyPost_ret (v := .tuple #[.agg #[.int .i64 0, .slice none 0 0, .slice none 0 0, .slice none 0 0, .slice none 0 0, .slice none 0 0], .bool false]) ?_ rfl ?_
    · simp (maxDischargeDepth := 8) [results, Tryz.results7, go_sem, *]
    exact ⟨by rw [HE.out]; exact NtRes.no _ _ _, (by repeat' (first | (with_reducible exact hB1) | (with_reducible refine Below.setCell ?_ ?_ _) | exact Nat.le_refl _ | exact Nat.le_succ _))⟩
  · have HE := hid (HY.out rfl)
    clear HN HY
    go_wp2
    refine bodyPost_ret (v := .tuple #[.agg #[.int .i64 4, .slice none 0 0, .slice none 0 0, .slice none 0 0, .slice A p.1.length c, .slice A' p.2.length c'], .bool true]) ?_ rfl ?_
    · simp (maxDischargeDepth := 8) [results, Tryz.results7, go_sem, *]
    refine ⟨?_, (by repeat' (first | (with_reducible exact hB1) | (with_reducible refine Below.setCell ?_ ?_ _) | exact Nat.le_refl _ | exact Nat.le_succ _))⟩
    rw [HE.out]
    refine NtRes.q (own_more ?_ (show w.heap.size ≤ w.heap.size + 2 by omega)) (own_more ?_ (show w.heap.size ≤ w.heap.size + 2 by omega)) HRS.out
    all_goals
      repeat' (first | (with_reducible exact HO.out) | (with_reducible exact HO'.out) | (with_reducible refine own_set ?_ ?_ _) | (show w.heap.size < _; omega) | (show w.heap.size + 1 < _; omega))
theorem rRN_big {l : List UInt8} (hs : 200 < l.length) : rReadNotation l = (noNote, false) := by rw [rReadNotation, if_pos hs]
set_option maxHeartbeats 1000000 in
theorem ReadNotation_any (s : ByteArray) (w : World) (hs : s.size ≤ 1099511627775) :
    Calls Tryz.prog 7 #[.string s] w fun e w' => NtRes w.heap.size (rReadNotation (tl s)) e w' ∧ Below w.heap.size w w' := by
  by_cases h : s.size ≤ 200
  · rcases kinR_cases (tl s) with hk | hk | hk | hk
    · exact ReadNotation_1 s w h hk
    · exact ReadNotation_2 s w h hk
    · exact ReadNotation_3 s w h hk
    · exact ReadNotation_4 s w h hk
  · have HE := hid (rRN_big (l := tl s) (by rw [tl_len]; omega))
    have hsI : (200 : Int) < (s.size : Int) := by omega
    clear h
    go_enter Tryz.func7, Tryz.ntmps7
    go_wp2
    refine bodyPost_ret (v := .tuple #[.agg #[.int .i64 0, .slice none 0 0, .slice none 0 0, .slice none 0 0, .slice none 0 0, .slice none 0 0], .bool false]) ?_ rfl ?_
    · simp (maxDischargeDepth := 8) [results, Tryz.results7, go_sem, *]
    exact ⟨by rw [HE.out]; exact NtRes.no _ _ _, by repeat' (first | (with_reducible exact Below.refl _ _) | (with_reducible refine Below.setCell ?_ ?_ _) | (with_reducible refine Below.alloc ?_ ?_ _) | exact Nat.le_refl _)⟩
set_option maxHeartbeats 1000000 in
theorem specReadPattern_any (s : ByteArray) (w : World) (hs : s.size ≤ 1099511627775) :
    Calls Tryz.prog 78 #[.string s] w fun e w' => ∃ v, e = .returned (.tuple #[v, .bool (rReadPattern s).2]) ∧ w'.ownsRow w.heap.size 2 1 v (rReadPattern s).1.length (ints (rReadPattern s).1) ∧ Below w.heap.size w w' := by
  have hT := l02Read_any s (by omega) w
  have hR : rReadPattern s = if okP (rdDig s.data.toList) then (rdDig s.data.toList, true) else ([], false) := rfl
  rw [hR]
  have hdl : (rdDig s.data.toList).length ≤ 1099511627776 := by rw [rdDig_len]; omega
  clear hR
  generalize rdDig s.data.toList = R at *
  have hT := hid hT
  have hL := hid (fun A w1 h => l02Ok_any A R.length h R w1 (by omega))
  obtain ⟨b, hb⟩ : ∃ b, okP R = b := ⟨_, rfl⟩
  rw [hb] at hL ⊢
  clear hb
  go_enter Tryz.func78, Tryz.ntmps78
  go_wp2_with fail
  refine hT.out.mono ?_
  rintro e w1 ⟨v, rfl, ho, hb1⟩
  obtain ⟨A1, c1, rfl⟩ := own_form ho
  have hC := hid (hL.out A1 w1 c1 (Rd.of_own ho))
  clear hT hL
  go_wp2_with fail
  refine hC.out.mono ?_
  rintro e w2 ⟨rfl, hb2⟩
  have ho2 := own_below ho hb2
  have hB2 := bchain hb1 hb2
  clear hC
  cases b
  · go_wp2
    go_ret2
    exact ⟨_, rfl, World.ownsRow_nil _ _ _ _, hB2⟩
  · go_wp2
    go_ret2
    exact ⟨_, rfl, ho2, hB2⟩
end Go.Proofs.YtgphkfnobmponaaGreat
