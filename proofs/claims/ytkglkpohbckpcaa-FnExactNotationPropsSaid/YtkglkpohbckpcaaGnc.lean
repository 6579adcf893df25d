/- Several texts in one: Wa, Wo, Wb, Wd. -/
import Derived.Test.YtkglkpohbckpcaaGnb
import Derived.Deep.Slices
import Derived.ChangeSame
import Derived.SizedLaws
import Derived.Test.YtkglkpohbckpcaaMp
import Derived.Test.YtkglkpohbckpcaaQp
import Derived.Test.YtkglkpohbckpcaaPc
import Derived.Test.YtkglkpohbckpcaaYe
/- ValidNotation: the reference's contract, and the law's walk. -/
namespace Go.Proofs.Ytkglkpohbckpcaa
open Go.RowKit
set_option linter.unusedVariables false

theorem tot_row_le : ∀ {rows : List (List Int)} {r : List Int}, r ∈ rows → r.length ≤ tot rows := by
  intro rows
  induction rows with
  | nil => intro r h; simp at h
  | cons a rows ih =>
    intro r h
    rw [tot]
    rcases List.mem_cons.1 h with rfl | h
    · omega
    · have := ih h; omega
theorem NtSm.of_left {k : Int} {p : List Int} {m : List (List Int)} {y : List Beat} {q1 q2 : List PT} {r : Int} (h0 : 0 ≤ r) (h : r + ((p.length + (m.length + tot m) + y.length + (q1.length + q2.length) : Nat) : Int) ≤ ((1048576 : Nat) : Int)) : NtSm (k, p, m, y, (q1, q2)) := by
  refine ⟨by simp only; omega, ⟨by simp only; omega, fun r hr => ?_, by simp only; omega⟩, by simp only; omega, by simp only; omega, by simp only; omega⟩
  have := tot_row_le hr
  simp only at this
  omega
theorem NtRd.drew {x : Note} {s : Six} {w : World} (h : NtRd x s w) : NtRd x s w.drew := h
set_option maxHeartbeats 1000000 in
theorem specValidNotation_any (k : Int) (p : List Int) (m : List (List Int)) (y : List Beat) (q1 q2 : List PT) (s : Six) (w : World) (hs : NtSm (k, p, m, y, (q1, q2))) (h : NtRd (k, p, m, y, (q1, q2)) s w) :
    Calls Try.prog 14 #[.agg #[.int .i64 k, .slice s.A p.length s.c, .slice s.A2 m.length s.c2, .slice s.A3 y.length s.c3, .slice s.A4 q1.length s.c4, .slice s.A5 q2.length s.c5]] w fun e w' => e = .returned (.bool (ntOk (k, p, m, y, (q1, q2)))) ∧ Below w.heap.size w w' := by
  obtain ⟨A, c, A2, c2, A3, c3, A4, c4, A5, c5⟩ := s
  simp only
  have hB0 : Below w.heap.size w (w.alloc (Obj.cells #[.int .i64 k, .slice A p.length c, .slice A2 m.length c2, .slice A3 y.length c3, .slice A4 q1.length c4, .slice A5 q2.length c5] 40)) := Below.alloc (Below.refl _ _) (Nat.le_refl _) _
  have hC := hid (l07Ok_any w.heap.size k p m y q1 q2 ⟨A, c, A2, c2, A3, c3, A4, c4, A5, c5⟩ _ hs (Bx.new w 40 _) (h.below hB0))
  have HB0 := hid hB0
  clear h hB0 hs
  go_enter Try.func14, Try.ntmps14
  go_wp2_with fail
  refine hC.out.mono ?_
  rintro e w1 ⟨rfl, hb1⟩
  have hB1 := bchain HB0.out hb1
  clear hC hb1
  go_wp2
  go_ret
  exact ⟨rfl, hB1⟩
set_option maxRecDepth 100000 in
set_option maxHeartbeats 8000000 in
theorem fnExactValidNotation_walk (w : World) (k : Int) (p : List Int) (m : List (List Int)) (y : List Beat) (q1 q2 : List PT) (s : Six) (m1 : p.length ≤ maxLen) (m2 : m.length ≤ maxLen) (m3 : ∀ r ∈ m, r.length ≤ maxLen) (m4 : y.length ≤ maxLen) (m5 : q1.length ≤ maxLen) (m6 : q2.length ≤ maxLen) (h : NtRd (k, p, m, y, (q1, q2)) s w) :
    Calls Try.prog 3 #[.agg #[.int .i64 k, .slice s.A p.length s.c, .slice s.A2 m.length s.c2, .slice s.A3 y.length s.c3, .slice s.A4 q1.length s.c4, .slice s.A5 q2.length s.c5]] w fun e w' => e = .returned (.bool true) ∧ Below w.heap.size w w' := by
  obtain ⟨A, c, A2, c2, A3, c3, A4, c4, A5, c5⟩ := s
  simp only
  have hB0 : Below w.heap.size w (w.alloc (Obj.cells #[.int .i64 k, .slice A p.length c, .slice A2 m.length c2, .slice A3 y.length c3, .slice A4 q1.length c4, .slice A5 q2.length c5] 31)) := Below.alloc (Below.refl _ _) (Nat.le_refl _) _
  have hX := Bx.new w 31 #[.int .i64 k, .slice A p.length c, .slice A2 m.length c2, .slice A3 y.length c3, .slice A4 q1.length c4, .slice A5 q2.length c5]
  have hS := hid (szNotation_any k A A2 A3 A4 A5 p.length m.length y.length q1.length q2.length c c2 c3 c4 c5 1048576 m (w.alloc (Obj.cells #[.int .i64 k, .slice A p.length c, .slice A2 m.length c2, .slice A3 y.length c3, .slice A4 q1.length c4, .slice A5 q2.length c5] 31)) m1 m2 m3 m4 m5 m6 (by omega) ((h.below hB0).2.1))
  have HB0 := hid hB0
  have HX := hid hX
  have HH := hid h
  clear h hB0 hX m1 m2 m3 m4 m5 m6
  go_enter Try.func3, Try.ntmps3
  go_wp2_with fail
  refine hS.out.mono ?_
  rintro e w1 ⟨⟨r, rfl, hr⟩, hb1⟩
  have hB1 := bchain HB0.out hb1
  have hX1 := HX.out.below hb1 HX.out.lt
  obtain ⟨⟨a0, a1, a2, a3, a4, a5⟩, -⟩ := zc hX1
  have hl1 := hX1.lt
  rcases hr with rfl | ⟨r0, hr⟩
  · clear hS HX HH HB0 hb1 hX1
    go_wp2
    go_ret
    exact ⟨rfl, hB1⟩
  · have hsm : NtSm (k, p, m, y, (q1, q2)) := NtSm.of_left r0 hr
    have hT := fun (w1 : World) (b : Below w.heap.size w w1) => toNotation_any k p m y q1 q2 ⟨A, c, A2, c2, A3, c3, A4, c4, A5, c5⟩ w1 hsm (HH.out.below b)
    simp only at hT
    have hT := hid hT
    have hF := hid (fun (t : Six) (w1 : World) (h : NtRd (k, p, m, y, (q1, q2)) t w1) => specValidNotation_any k p m y q1 q2 t w1 hsm h)
    have hG := hid (fun (t : Six) (w1 : World) (h : NtRd (k, p, m, y, (q1, q2)) t w1) => ValidNotation_any k p m y q1 q2 t w1 hsm h)
    have hE := hid (fun (t u : Six) (w1 : World) (h : NtRd (k, p, m, y, (q1, q2)) t w1) (h' : NtRd (k, p, m, y, (q1, q2)) u w1) => eqNotation_same k p m y q1 q2 t u w1 hsm h h')
    obtain ⟨b, hb⟩ : ∃ b, ntOk (k, p, m, y, (q1, q2)) = b := ⟨_, rfl⟩
    rw [hb] at hF hG
    have hbq : (b != b) = false := by simp
    have hrn : ¬ r < 0 := by omega
    have HX1 := hid hX1
    clear hS HX HH HB0 hb1 hX1 hr hb hsm
    go_wp2_with fail
    refine (hT.out _ hB1).mono ?_
    rintro e w2 ⟨⟨⟨D, d, D2, d2, D3, d3, D4, d4, D5, d5⟩, rfl, hrd2⟩, hb2⟩
    have HB2 := hid (bchain hB1 hb2)
    have HX2 := hid (HX1.out.below hb2 HX1.out.lt)
    have HR2 := hid hrd2
    simp only
    clear hB1 HX1 hrd2 hb2 a0 a1 a2 a3 a4 a5 hl1 hrn r0
    go_wp2_with fail
    refine (hF.out ⟨D, d, D2, d2, D3, d3, D4, d4, D5, d5⟩ w2 HR2.out).mono ?_
    rintro e w3 ⟨rfl, hb3⟩
    have hB3 := bchain HB2.out hb3
    have hX3 := HX2.out.below hb3 HX2.out.lt
    obtain ⟨⟨a0, a1, a2, a3, a4, a5⟩, -⟩ := zc hX3
    have hl1 := hX3.lt
    have HB3 := hid hB3
    have HX3 := hid hX3
    clear HB2 HX2 HR2 hb3 hB3 hX3 hF
    go_wp2_with fail
    refine (hT.out _ HB3.out).mono ?_
    rintro e w4 ⟨⟨⟨G, g, G2, g2, G3, g3, G4, g4, G5, g5⟩, rfl, hrd4⟩, hb4⟩
    have HB4 := hid (bchain HB3.out hb4)
    have HX4 := hid (HX3.out.below hb4 HX3.out.lt)
    have HBA : Hid (Below w4.heap.size w4 (w4.alloc (Obj.cells #[.int .i64 k, .slice G p.length g, .slice G2 m.length g2, .slice G3 y.length g3, .slice G4 q1.length g4, .slice G5 q2.length g5] 40))) := Below.alloc (Below.refl _ _) (Nat.le_refl _) _
    have HR4 := hid (hrd4.below HBA.out)
    have HY4 := hid (Bx.new w4 40 #[.int .i64 k, .slice G p.length g, .slice G2 m.length g2, .slice G3 y.length g3, .slice G4 q1.length g4, .slice G5 q2.length g5])
    simp only
    clear HB3 HX3 hrd4 hb4 a0 a1 a2 a3 a4 a5 hl1
    go_wp2_with fail
    refine (hG.out ⟨G, g, G2, g2, G3, g3, G4, g4, G5, g5⟩ _ HR4.out).mono ?_
    rintro e w5 ⟨rfl, hb5⟩
    have HB5 := hid ((HB4.out.trans (HBA.out.mono HB4.out.size)).trans (hb5.mono (HB4.out.trans (HBA.out.mono HB4.out.size)).size))
    have HX5 := hid ((HX4.out.alloc (Obj.cells #[.int .i64 k, .slice G p.length g, .slice G2 m.length g2, .slice G3 y.length g3, .slice G4 q1.length g4, .slice G5 q2.length g5] 40)).below hb5 (HX4.out.alloc _).lt)
    have HY5 := hid (HY4.out.below hb5 HY4.out.lt)
    have HR5 := hid (HR4.out.below hb5)
    clear HB4 HX4 HBA HR4 HY4 hb5 hG
    obtain ⟨⟨a0, a1, a2, a3, a4, a5⟩, -⟩ := zc HX5.out
    obtain ⟨⟨b0, b1, b2, b3, b4, b5⟩, -⟩ := zc HY5.out
    have hl1 := HX5.out.lt
    have hl2 := HY5.out.lt
    go_wp2
    go_region_with (first
      | (go_at_call 15; go_loud (with_reducible refine (hT.out _ (by repeat' (first | (with_reducible exact HB5.out) | (with_reducible refine Below.drew ?_)))).mono ?_; rintro e w6 ⟨⟨⟨K, k1, K2, k2, K3, k3, K4, k4, K5, k5⟩, rfl, hrd6⟩, hb6⟩; have hY6 := (Bx.drew HY5.out).below hb6 (Bx.drew HY5.out).lt; obtain ⟨⟨x0, x1, x2, x3, x4, x5⟩, -⟩ := zc hY6; have hR6 := NtRd.below (NtRd.drew HR5.out) hb6; have hB6 := bchain HB5.out.drew hb6))
      | (go_at_call 17; have hEE := hE.out ⟨G, g, G2, g2, G3, g3, G4, g4, G5, g5⟩ ⟨K, k1, K2, k2, K3, k3, K4, k4, K5, k5⟩ _ hR6 hrd6; simp only at hEE; with_reducible refine hEE.mono ?_; rintro e w7 ⟨rfl, hb7⟩; have hB7 := bchain hB6 hb7))
    all_goals
      go_wp2
      go_ret
      exact ⟨rfl, hB7⟩
end Go.Proofs.Ytkglkpohbckpcaa

/- A notation that came in as an argument, opened: what its lists read as. -/
namespace Go.Proofs.Ytkglkpohbckpcaa
open Go.RowKit Go.ChangeShapes Go.WideShapes Go.Deep
set_option linter.unusedVariables false

section
variable {H : Type} {enc : TypeId × Value → H} {P : Program} {w : World} {base : Nat} {held : Bool}

theorem flat_at {α : Type} (f : α → List Value) (sz : Nat) (hf : ∀ a, (f a).length = sz) : ∀ (xs : List α) (i r : Nat), r < sz → (xs.flatMap f)[i * sz + r]? = (xs[i]?).bind fun a => (f a)[r]? := by
  intro xs
  induction xs with
  | nil => intro i r _; simp
  | cons a xs ih =>
    intro i r hr
    have e : (a :: xs).flatMap f = f a ++ xs.flatMap f := rfl
    rw [e]
    cases i with
    | zero => rw [Nat.zero_mul, Nat.zero_add, List.getElem?_append_left (by rw [hf]; exact hr)]; rfl
    | succ i =>
      rw [List.getElem?_append_right (by rw [hf, Nat.succ_mul]; omega), hf, show (i + 1) * sz + r - sz = i * sz + r by rw [Nat.succ_mul]; omega, ih i r hr]; rfl
theorem flat_len {α : Type} (f : α → List Value) (sz : Nat) (hf : ∀ a, (f a).length = sz) (xs : List α) : (xs.flatMap f).length = xs.length * sz := by
  induction xs with
  | nil => simp
  | cons a xs ih =>
    have e : (a :: xs).flatMap f = f a ++ xs.flatMap f := rfl
    rw [e, List.length_append, hf, ih, List.length_cons, Nat.succ_mul]; omega
theorem cells_at {a : Addr} {b off : Nat} (ha : a = ⟨b, off, none⟩) (i j : Nat) : (a.add i).add j = ⟨b, off + (i + j), none⟩ := by
  subst ha
  rw [add_add]
  unfold Addr.add; split <;> simp_all
theorem add_at {b off i : Nat} : (⟨b, off, none⟩ : Addr).add i = ⟨b, off + i, none⟩ := by unfold Addr.add; split <;> simp_all
/-- A slice that came in, its elements of a known form. -/
theorem open_rows {α : Type} [Inhabited α] {sz : Nat} (f : α → List Value) (hf : ∀ a, (f a).length = sz) (hsz : 0 < sz) {t e : TypeId} {fuel : Nat} {v : Value} {x : DataW H × List MemPlace} (ht : P.underlying t = some (.slice e)) (hc : P.cellsOf e = sz)
    (Q : α → Prop) (hel : ∀ (n : Nat) (cs : List Value) (y : DataW H × List MemPlace), DataW.trod enc P w base (fun _ => true) held n e cs = some y → ∃ a, cs = f a ∧ Q a)
    (h : DataW.trod enc P w base (fun _ => true) held fuel t [v] = some x) :
    ∃ (A : Option Addr) (c : Nat) (xs : List α), v = .slice A xs.length c ∧ xs.length ≤ maxLen ∧ (∀ a ∈ xs, Q a) ∧ Rd w w.heap.size sz A xs.length (xs.flatMap f) := by
  rcases open_slice ht h with ⟨hcs, _⟩ | ⟨a, len, cap, m, n, D, Pl, hcs, hb, hl, hm, hmm, hx, hall⟩
  · simp at hcs
    subst hcs
    exact ⟨none, 0, [], rfl, by simp, by simp, by simp, fun h => absurd h (by simp)⟩
  · simp at hcs
    subst hcs
    have hmc : m = cap := by simpa using hmm
    have hall2 : ∀ i, i < len → ∃ y : α, (∃ cs, w.cells? base (a.add (i * sz)) sz = some cs ∧ cs = f y) ∧ Q y := fun i hi => by
      obtain ⟨cs, h1, h2⟩ := hall i (by omega)
      rw [hc] at h1
      obtain ⟨y, hy, hq⟩ := hel n cs _ h2
      exact ⟨y, ⟨cs, h1, hy⟩, hq⟩
    obtain ⟨g, hg⟩ := choose_lt hall2
    have hlen : ((List.range len).map g).length = len := by simp
    refine ⟨some a, cap, (List.range len).map g, by rw [hlen], by rw [hlen]; omega, fun y hy => ?_, ?_, fun hn => ?_⟩
    · obtain ⟨i, hi, rfl⟩ := List.mem_map.1 hy
      exact (hg i (by simpa using hi)).2
    · rw [flat_len f sz hf]
    · rw [hlen] at hn
      obtain ⟨b, off, spot⟩ := a
      have hcell : ∀ i r, i < len → r < sz → w.cell? (((⟨b, off, spot⟩ : Addr).add (i * sz)).add r) = (f (g i))[r]? := fun i r hi hr => by
        obtain ⟨⟨cs, h1, rfl⟩, _⟩ := hg i hi
        exact (World.cells?_some h1).2.2 r hr
      have h0 := hcell 0 0 hn hsz
      have h00 : (f (g 0))[0]? = some ((f (g 0))[0]'(by rw [hf]; exact hsz)) := List.getElem?_eq_getElem _
      rw [h00, Nat.zero_mul] at h0
      have hs : spot = none := by simpa [Addr.add] using World.cell?_spot h0
      subst hs
      have hbl : b < w.heap.size := by
        have := World.block_lt_of_cell? w _ h0
        simpa [Addr.add] using this
      refine ⟨b, off, rfl, hbl, fun j u hu => ?_⟩
      have hj : j < len * sz := by
        have := (List.getElem?_eq_some_iff.1 hu).1
        rw [flat_len f sz hf, hlen] at this; exact this
      have hdm : j / sz * sz + j % sz = j := by rw [Nat.mul_comm]; exact Nat.div_add_mod j sz
      have hr : j % sz < sz := Nat.mod_lt _ hsz
      have hi : j / sz < len := Nat.div_lt_of_lt_mul (by rw [Nat.mul_comm]; exact hj)
      have h1 := hcell (j / sz) (j % sz) hi hr
      rw [cells_at rfl, hdm] at h1
      rw [h1, ← hu]
      conv => rhs; rw [← hdm, flat_at f sz hf _ _ _ hr]
      rw [List.getElem?_map, List.getElem?_range hi]; rfl
end
section
variable {H : Type} {enc : TypeId × Value → H} {w : World} {held : Bool}
theorem cells_int : Try.prog.cellsOf 2 = 1 := by kernel_rfl
theorem cells_bool : Try.prog.cellsOf 4 = 1 := by kernel_rfl
theorem cells_ints : Try.prog.cellsOf 22 = 1 := by kernel_rfl
theorem cells_rows : Try.prog.cellsOf 23 = 1 := by kernel_rfl
theorem cells_multi : Try.prog.cellsOf 25 = 1 := by kernel_rfl
theorem cells_bt : Try.prog.cellsOf 166 = 4 := by kernel_rfl
theorem cells_st : Try.prog.cellsOf 164 = 2 := by kernel_rfl
theorem cells_bts : Try.prog.cellsOf 26 = 1 := by kernel_rfl
theorem cells_pt : Try.prog.cellsOf 195 = 2 := by kernel_rfl
theorem cells_pts : Try.prog.cellsOf 27 = 1 := by kernel_rfl
theorem cells_ps : Try.prog.cellsOf 29 = 2 := by kernel_rfl
theorem cells_nt : Try.prog.cellsOf 31 = 6 := by kernel_rfl
theorem twoV {cs : List Value} (h : cs.length = 2) : ∃ a b, cs = [a, b] := by
  match cs, h with
  | [a, b], _ => exact ⟨a, b, rfl⟩
theorem fourV {cs : List Value} (h : cs.length = 4) : ∃ a b c d, cs = [a, b, c, d] := by
  match cs, h with
  | [a, b, c, d], _ => exact ⟨a, b, c, d, rfl⟩
theorem sixV {cs : List Value} (h : cs.length = 6) : ∃ a b c d e f, cs = [a, b, c, d, e, f] := by
  match cs, h with
  | [a, b, c, d, e, f], _ => exact ⟨a, b, c, d, e, f, rfl⟩
theorem el_int (n : Nat) (cs : List Value) (y : DataW H × List MemPlace) (h : DataW.trod enc Try.prog w 0 (fun _ => true) held n 2 cs = some y) : ∃ a : Int, cs = [Value.int .i64 a] := by
  obtain ⟨a, rfl, _, _⟩ := DataW.trod_int Try.underlying2 h
  exact ⟨a, rfl⟩
theorem el_bool (n : Nat) (cs : List Value) (y : DataW H × List MemPlace) (h : DataW.trod enc Try.prog w 0 (fun _ => true) held n 4 cs = some y) : ∃ a : Bool, cs = [Value.bool a] := by
  obtain ⟨a, rfl, _⟩ := DataW.trod_bool Try.underlying4 h
  exact ⟨a, rfl⟩
theorem el_pt (n : Nat) (cs : List Value) (y : DataW H × List MemPlace) (h : DataW.trod enc Try.prog w 0 (fun _ => true) held n 195 cs = some y) : ∃ a : PT, cs = thc a ∧ True := by
  obtain ⟨xs, m, _, _, hl, hxl, hf⟩ := DataW.trod_struct Try.underlying195 h
  rw [cells_pt] at hl
  obtain ⟨c0, c1, rfl⟩ := twoV hl
  have f0 := hf 0 _ rfl
  have f1 := hf 1 _ rfl
  simp [cells_int, cells_bool] at f0 f1 hxl
  obtain ⟨y0, f0⟩ : ∃ y0, DataW.trod enc Try.prog w 0 (fun _ => true) held m 2 [c0] = some y0 := ⟨_, f0.trans (List.getElem?_eq_getElem (by omega))⟩
  obtain ⟨y1, f1⟩ : ∃ y1, DataW.trod enc Try.prog w 0 (fun _ => true) held m 4 [c1] = some y1 := ⟨_, f1.trans (List.getElem?_eq_getElem (by omega))⟩
  obtain ⟨a, ha⟩ := el_int _ _ _ f0
  obtain ⟨b, hb⟩ := el_bool _ _ _ f1
  simp at ha hb
  subst ha hb
  exact ⟨(a, b), rfl, trivial⟩
theorem el_st (n : Nat) (cs : List Value) (y : DataW H × List MemPlace) (h : DataW.trod enc Try.prog w 0 (fun _ => true) held n 164 cs = some y) : ∃ (a : Int) (b : Bool), cs = [Value.int .i64 a, .bool b] := by
  obtain ⟨xs, m, _, _, hl, hxl, hf⟩ := DataW.trod_struct Try.underlying164 h
  rw [cells_st] at hl
  obtain ⟨c0, c1, rfl⟩ := twoV hl
  have f0 := hf 0 _ rfl
  have f1 := hf 1 _ rfl
  simp [cells_int, cells_bool] at f0 f1 hxl
  obtain ⟨y0, f0⟩ : ∃ y0, DataW.trod enc Try.prog w 0 (fun _ => true) held m 2 [c0] = some y0 := ⟨_, f0.trans (List.getElem?_eq_getElem (by omega))⟩
  obtain ⟨y1, f1⟩ : ∃ y1, DataW.trod enc Try.prog w 0 (fun _ => true) held m 4 [c1] = some y1 := ⟨_, f1.trans (List.getElem?_eq_getElem (by omega))⟩
  obtain ⟨a, ha⟩ := el_int _ _ _ f0
  obtain ⟨b, hb⟩ := el_bool _ _ _ f1
  simp at ha hb
  subst ha hb
  exact ⟨a, b, rfl⟩
theorem el_bt (n : Nat) (cs : List Value) (y : DataW H × List MemPlace) (h : DataW.trod enc Try.prog w 0 (fun _ => true) held n 166 cs = some y) : ∃ a : Beat, cs = btC a ∧ True := by
  obtain ⟨xs, m, _, _, hl, hxl, hf⟩ := DataW.trod_struct Try.underlying166 h
  rw [cells_bt] at hl
  obtain ⟨c0, c1, c2, c3, rfl⟩ := fourV hl
  have f0 := hf 0 _ rfl
  have f1 := hf 1 _ rfl
  simp [cells_st] at f0 f1 hxl
  obtain ⟨y0, f0⟩ : ∃ y0, DataW.trod enc Try.prog w 0 (fun _ => true) held m 164 [c0, c1] = some y0 := ⟨_, f0.trans (List.getElem?_eq_getElem (by omega))⟩
  obtain ⟨y1, f1⟩ : ∃ y1, DataW.trod enc Try.prog w 0 (fun _ => true) held m 164 [c2, c3] = some y1 := ⟨_, f1.trans (List.getElem?_eq_getElem (by omega))⟩
  obtain ⟨a, b, ha⟩ := el_st _ _ _ f0
  obtain ⟨c, d, hb⟩ := el_st _ _ _ f1
  simp at ha hb
  obtain ⟨rfl, rfl⟩ := ha
  obtain ⟨rfl, rfl⟩ := hb
  exact ⟨((a, b), (c, d)), rfl, trivial⟩
/-- A row of a slice of slices: where it lies, and what it reads as. -/
structure RowAt where
  A : Option Addr
  c : Nat
  row : List Int
instance : Inhabited RowAt := ⟨⟨none, 0, []⟩⟩
theorem flat_ints (xs : List Int) : xs.flatMap (fun a => [Value.int .i64 a]) = ints xs := by
  induction xs with
  | nil => rfl
  | cons a xs ih => simp [ints] at ih ⊢; exact ih
theorem open_int_row (n : Nat) (v : Value) (y : DataW H × List MemPlace) (h : DataW.trod enc Try.prog w 0 (fun _ => true) held n 22 [v] = some y) :
    ∃ (A : Option Addr) (c : Nat) (xs : List Int), v = .slice A xs.length c ∧ xs.length ≤ maxLen ∧ Rd w w.heap.size 1 A xs.length (ints xs) := by
  obtain ⟨A, c, xs, h1, h2, _, h4⟩ := open_rows (sz := 1) (fun a : Int => [Value.int .i64 a]) (fun _ => rfl) (by omega) Try.underlying22 cells_int (fun _ => True) (fun n cs y h => by obtain ⟨a, ha⟩ := el_int n cs y h; exact ⟨a, ha, trivial⟩) h
  rw [flat_ints] at h4
  exact ⟨A, c, xs, h1, h2, h4⟩
theorem el_row (n : Nat) (cs : List Value) (y : DataW H × List MemPlace) (h : DataW.trod enc Try.prog w 0 (fun _ => true) held n 22 cs = some y) :
    ∃ a : RowAt, cs = [Value.slice a.A a.row.length a.c] ∧ (a.row.length ≤ maxLen ∧ Rd w w.heap.size 1 a.A a.row.length (ints a.row)) := by
  have hcs : ∃ v, cs = [v] := by
    rcases DataW.trod_slice Try.underlying22 h with ⟨rfl, _⟩ | ⟨a, len, cap, elems, rest, n, _, rfl, _⟩
    · exact ⟨_, rfl⟩
    · exact ⟨_, rfl⟩
  obtain ⟨v, rfl⟩ := hcs
  obtain ⟨A, c, xs, rfl, h2, h3⟩ := open_int_row n v y h
  exact ⟨⟨A, c, xs⟩, rfl, h2, h3⟩
theorem open_grid (n : Nat) (v : Value) (y : DataW H × List MemPlace) (h : DataW.trod enc Try.prog w 0 (fun _ => true) held n 23 [v] = some y) :
    ∃ (A : Option Addr) (c : Nat) (rows : List (List Int)), v = .slice A rows.length c ∧ rows.length ≤ maxLen ∧ (∀ r ∈ rows, r.length ≤ maxLen) ∧ RdG w w.heap.size A rows.length rows := by
  obtain ⟨A, c, xs, h1, h2, h3, h4⟩ := open_rows (sz := 1) (fun a : RowAt => [Value.slice a.A a.row.length a.c]) (fun _ => rfl) (by omega) Try.underlying23 cells_ints (fun a => a.row.length ≤ maxLen ∧ Rd w w.heap.size 1 a.A a.row.length (ints a.row)) (fun n cs y h => el_row n cs y h) h
  refine ⟨A, c, xs.map (·.row), by rw [List.length_map]; exact h1, by rw [List.length_map]; exact h2, fun r hr => ?_, by rw [List.length_map], fun hn => ?_⟩
  · obtain ⟨a, ha, rfl⟩ := List.mem_map.1 hr
    exact (h3 a ha).1
  · rw [List.length_map] at hn
    obtain ⟨b, off, hA, hb, hc⟩ := h4.2 hn
    refine ⟨b, off, hA, hb, fun j row hj => ?_⟩
    rw [List.getElem?_map, Option.map_eq_some_iff] at hj
    obtain ⟨a, ha, rfl⟩ := hj
    refine ⟨a.A, a.c, hc j _ ?_, (h3 a (List.mem_of_getElem? ha)).2⟩
    have h5 := flat_at (fun a : RowAt => [Value.slice a.A a.row.length a.c]) 1 (fun _ => rfl) xs j 0 (by omega)
    rw [Nat.mul_one, Nat.add_zero, ha] at h5
    exact h5
set_option maxRecDepth 100000 in
/-- A notation that came in. -/
theorem open_note {r : Reach} {b0 : Nat} {v : Value} {d : DataW H} {q : List MemPlace} (hv : Value.okWide Try.prog w r b0 31 v) (h : DataW.Trod enc Try.prog w 0 (fun _ => true) held 31 v d q) :
    ∃ (k : Int) (p : List Int) (m : List (List Int)) (y : List Beat) (q1 q2 : List PT) (s : Six), v = .agg #[.int .i64 k, .slice s.A p.length s.c, .slice s.A2 m.length s.c2, .slice s.A3 y.length s.c3, .slice s.A4 q1.length s.c4, .slice s.A5 q2.length s.c5] ∧
      p.length ≤ maxLen ∧ m.length ≤ maxLen ∧ (∀ r ∈ m, r.length ≤ maxLen) ∧ y.length ≤ maxLen ∧ q1.length ≤ maxLen ∧ q2.length ≤ maxLen ∧ NtRd (k, p, m, y, (q1, q2)) s w := by
  obtain ⟨cs, rfl, hsz⟩ := okWide_struct Try.underlying31 hv
  rw [cells_nt] at hsz
  obtain ⟨fuel, hf⟩ := h
  obtain ⟨cl⟩ := cs
  obtain ⟨c0, c1, c2, c3, c4, c5, rfl⟩ := sixV (by simpa using hsz)
  obtain ⟨xs, n, _, _, _, hxl, hall⟩ := DataW.trod_struct Try.underlying31 hf
  have f0 := hall 0 _ rfl
  have f1 := hall 1 _ rfl
  have f2 := hall 2 _ rfl
  have f3 := hall 3 _ rfl
  have f4 := hall 4 _ rfl
  simp [Value.cells, cells_int, cells_ints, cells_multi, cells_bts, cells_ps] at f0 f1 f2 f3 f4 hxl
  obtain ⟨y0, f0⟩ : ∃ y0, DataW.trod enc Try.prog w 0 (fun _ => true) held n 2 [c0] = some y0 := ⟨_, f0.trans (List.getElem?_eq_getElem (by omega))⟩
  obtain ⟨y1, f1⟩ : ∃ y1, DataW.trod enc Try.prog w 0 (fun _ => true) held n 22 [c1] = some y1 := ⟨_, f1.trans (List.getElem?_eq_getElem (by omega))⟩
  obtain ⟨y2, f2⟩ : ∃ y2, DataW.trod enc Try.prog w 0 (fun _ => true) held n 25 [c2] = some y2 := ⟨_, f2.trans (List.getElem?_eq_getElem (by omega))⟩
  obtain ⟨y3, f3⟩ : ∃ y3, DataW.trod enc Try.prog w 0 (fun _ => true) held n 26 [c3] = some y3 := ⟨_, f3.trans (List.getElem?_eq_getElem (by omega))⟩
  obtain ⟨y4, f4⟩ : ∃ y4, DataW.trod enc Try.prog w 0 (fun _ => true) held n 29 [c4, c5] = some y4 := ⟨_, f4.trans (List.getElem?_eq_getElem (by omega))⟩
  obtain ⟨k, hk⟩ := el_int _ _ _ f0
  simp at hk
  subst hk
  obtain ⟨A, c, p, rfl, hp, hp2⟩ := open_int_row _ _ _ f1
  obtain ⟨xs2, n2, _, _, _, hxl2, hall2⟩ := DataW.trod_struct Try.underlying25 f2
  have g0 := hall2 0 _ rfl
  simp [cells_rows] at g0 hxl2
  obtain ⟨z0, g0⟩ : ∃ z0, DataW.trod enc Try.prog w 0 (fun _ => true) held n2 23 [c2] = some z0 := ⟨_, g0.trans (List.getElem?_eq_getElem (by omega))⟩
  obtain ⟨A2, d2, m, rfl, hm, hm1, hm2⟩ := open_grid _ _ _ g0
  obtain ⟨A3, d3, y, rfl, hy, _, hy2⟩ := open_rows (sz := 4) btC (fun _ => rfl) (by omega) Try.underlying26 cells_bt (fun _ => True) (fun n cs y h => el_bt n cs y h) f3
  obtain ⟨xs4, n4, _, _, _, hxl4, hall4⟩ := DataW.trod_struct Try.underlying29 f4
  have e0 := hall4 0 _ rfl
  have e1 := hall4 1 _ rfl
  simp [cells_pts] at e0 e1 hxl4
  obtain ⟨w0, e0⟩ : ∃ z0, DataW.trod enc Try.prog w 0 (fun _ => true) held n4 27 [c4] = some z0 := ⟨_, e0.trans (List.getElem?_eq_getElem (by omega))⟩
  obtain ⟨w1, e1⟩ : ∃ z0, DataW.trod enc Try.prog w 0 (fun _ => true) held n4 27 [c5] = some z0 := ⟨_, e1.trans (List.getElem?_eq_getElem (by omega))⟩
  obtain ⟨A4, d4, q1, rfl, hq1, _, hq12⟩ := open_rows (sz := 2) thc (fun _ => rfl) (by omega) Try.underlying27 cells_pt (fun _ => True) (fun n cs y h => el_pt n cs y h) e0
  obtain ⟨A5, d5, q2, rfl, hq2, _, hq22⟩ := open_rows (sz := 2) thc (fun _ => rfl) (by omega) Try.underlying27 cells_pt (fun _ => True) (fun n cs y h => el_pt n cs y h) e1
  exact ⟨k, p, m, y, q1, q2, ⟨A, c, A2, d2, A3, d3, A4, d4, A5, d5⟩, rfl, hp, hm, hm1, hy, hq1, hq2, hp2, hm2, hy2, hq12, hq22⟩
end
end Go.Proofs.Ytkglkpohbckpcaa

/- NotationBeats: contracts, and the law's walk. -/
namespace Go.Proofs.Ytkglkpohbckpcaa
open Go.RowKit
set_option linter.unusedVariables false

theorem ntOk_eb {x : Note} (h : ntOk x = true) : ebN x = true ∧ swN x = true := by
  unfold ntOk at h
  rw [Bool.and_eq_true] at h; exact h
theorem ntOk_kind {x : Note} (h : ntOk x = true) : x.1 = 1 ∨ x.1 = 2 ∨ x.1 = 3 ∨ x.1 = 4 := by
  have h2 := (ntOk_eb h).2
  have hk : x.1 = 1 ∨ x.1 = 2 ∨ x.1 = 3 ∨ x.1 = 4 ∨ (x.1 ≠ 1 ∧ x.1 ≠ 2 ∧ x.1 ≠ 3 ∧ x.1 ≠ 4) := by omega
  rcases hk with h | h | h | h | ⟨a, b, c, d⟩
  · exact .inl h
  · exact .inr (.inl h)
  · exact .inr (.inr (.inl h))
  · exact .inr (.inr (.inr h))
  · rw [swN_0 a b c d] at h2; cases h2
theorem btN_at {x : Note} (h : ntOk x = true) : btN x = if x.1 = 1 then (x.2.1.length : Int) else if x.1 = 2 then (x.2.2.1.length : Int) else if x.1 = 3 then 2 * (x.2.2.2.1.length : Int) else (x.2.2.2.2.1.length : Int) := by
  have h1 := ebN_iff.1 (ntOk_eb h).1
  have h2 := ntOk_kind h
  unfold btN
  rcases h2 with h2 | h2 | h2 | h2 <;> rw [h2] <;> rw [h2] at h1 <;> simp <;> omega
set_option maxRecDepth 100000 in
set_option maxHeartbeats 4000000 in
theorem NotationBeats_any (k : Int) (p : List Int) (m : List (List Int)) (y : List Beat) (q1 q2 : List PT) (s : Six) (w : World) (hs : NtSm (k, p, m, y, (q1, q2))) (h : NtRd (k, p, m, y, (q1, q2)) s w) :
    Calls Try.prog 19 #[.agg #[.int .i64 k, .slice s.A p.length s.c, .slice s.A2 m.length s.c2, .slice s.A3 y.length s.c3, .slice s.A4 q1.length s.c4, .slice s.A5 q2.length s.c5]] w fun e w' => e = .returned (.tuple #[.int .i64 (rNotationBeats (k, p, m, y, (q1, q2))).1, .int .i64 (rNotationBeats (k, p, m, y, (q1, q2))).2]) ∧ Below w.heap.size w w' := by
  obtain ⟨A, c, A2, c2, A3, c3, A4, c4, A5, c5⟩ := s
  simp only
  have hB0 : Below w.heap.size w (w.alloc (Obj.cells #[.int .i64 k, .slice A p.length c, .slice A2 m.length c2, .slice A3 y.length c3, .slice A4 q1.length c4, .slice A5 q2.length c5] 40)) := Below.alloc (Below.refl _ _) (Nat.le_refl _) _
  have hX := Bx.new w 40 #[.int .i64 k, .slice A p.length c, .slice A2 m.length c2, .slice A3 y.length c3, .slice A4 q1.length c4, .slice A5 q2.length c5]
  have hV := ValidNotation_any k p m y q1 q2 ⟨A, c, A2, c2, A3, c3, A4, c4, A5, c5⟩ _ hs (h.below hB0)
  obtain ⟨l1, ⟨l2, l3, _⟩, l4, l5, l6⟩ := hs
  simp only at l1 l2 l3 l4 l5 l6 hV
  obtain ⟨b, hb⟩ : ∃ b, ntOk (k, p, m, y, (q1, q2)) = b := ⟨_, rfl⟩
  have HR : Hid (rNotationBeats (k, p, m, y, (q1, q2)) = if b then ((p.length : Int) + m.length + 2 * y.length + q1.length, 0) else (0, 1)) := by show _ = _; rw [rNotationBeats, hb]; rfl
  rw [hb] at hV
  have hV := hid hV
  have HB0 := hid hB0
  have HX := hid hX
  generalize rNotationBeats (k, p, m, y, (q1, q2)) = R at *
  clear h hB0 hX hb
  go_enter Try.func19, Try.ntmps19
  go_wp2_with fail
  refine hV.out.mono ?_
  rintro e w1 ⟨rfl, hb1⟩
  have hB1 := bchain HB0.out hb1
  have hX1 := HX.out.below hb1 HX.out.lt
  obtain ⟨⟨a0, a1, a2, a3, a4, a5⟩, -⟩ := zc hX1
  have hl1 := hX1.lt
  clear hV HX HB0 hb1 hX1
  cases b
  · go_wp2
    go_ret2
    exact ⟨by rw [HR.out]; rfl, hB1⟩
  · go_wp2
    go_ret2
    exact ⟨by rw [HR.out]; rfl, hB1⟩
set_option maxRecDepth 100000 in
set_option maxHeartbeats 4000000 in
theorem specNotationBeats_any (k : Int) (p : List Int) (m : List (List Int)) (y : List Beat) (q1 q2 : List PT) (s : Six) (w : World) (hs : NtSm (k, p, m, y, (q1, q2))) (h : NtRd (k, p, m, y, (q1, q2)) s w) :
    Calls Try.prog 18 #[.agg #[.int .i64 k, .slice s.A p.length s.c, .slice s.A2 m.length s.c2, .slice s.A3 y.length s.c3, .slice s.A4 q1.length s.c4, .slice s.A5 q2.length s.c5]] w fun e w' => e = .returned (.tuple #[.int .i64 (rNotationBeats (k, p, m, y, (q1, q2))).1, .int .i64 (rNotationBeats (k, p, m, y, (q1, q2))).2]) ∧ Below w.heap.size w w' := by
  obtain ⟨A, c, A2, c2, A3, c3, A4, c4, A5, c5⟩ := s
  simp only
  have hB0 : Below w.heap.size w (w.alloc (Obj.cells #[.int .i64 k, .slice A p.length c, .slice A2 m.length c2, .slice A3 y.length c3, .slice A4 q1.length c4, .slice A5 q2.length c5] 40)) := Below.alloc (Below.refl _ _) (Nat.le_refl _) _
  have hX := Bx.new w 40 #[.int .i64 k, .slice A p.length c, .slice A2 m.length c2, .slice A3 y.length c3, .slice A4 q1.length c4, .slice A5 q2.length c5]
  have hV := l07Ok_any w.heap.size k p m y q1 q2 ⟨A, c, A2, c2, A3, c3, A4, c4, A5, c5⟩ _ hs hX (h.below hB0)
  obtain ⟨l1, ⟨l2, l3, _⟩, l4, l5, l6⟩ := hs
  simp only at l1 l2 l3 l4 l5 l6 hV
  obtain ⟨x, hx⟩ : ∃ x : Note, (k, p, m, y, (q1, q2)) = x := ⟨_, rfl⟩
  rw [hx] at hV ⊢
  obtain ⟨b, hb⟩ : ∃ b, ntOk x = b := ⟨_, rfl⟩
  have HR : Hid (rNotationBeats x = if b then (btN x, 0) else (0, 1)) := by show _ = _; rw [rNotationBeats, hb]
  have HBT : Hid (b = true → btN x = if k = 1 then (p.length : Int) else if k = 2 then (m.length : Int) else if k = 3 then 2 * (y.length : Int) else (q1.length : Int)) := fun h => by
    rw [btN_at (by rw [hb, h]), ← hx]
  have HK : Hid (b = true → k = 1 ∨ k = 2 ∨ k = 3 ∨ k = 4) := fun h => by
    have := ntOk_kind (x := x) (by rw [hb, h]); rw [← hx] at this; exact this
  rw [hb] at hV
  have hV := hid hV
  have HB0 := hid hB0
  have HX := hid hX
  generalize rNotationBeats x = R at *
  generalize btN x = N at *
  clear h hB0 hX hb hx
  go_enter Try.func18, Try.ntmps18
  go_wp2_with fail
  refine hV.out.mono ?_
  rintro e w1 ⟨rfl, hb1⟩
  have hB1 := bchain HB0.out hb1
  have hX1 := HX.out.below hb1 HX.out.lt
  obtain ⟨⟨a0, a1, a2, a3, a4, a5⟩, -⟩ := zc hX1
  have hl1 := hX1.lt
  clear hV HX HB0 hb1 hX1
  cases b
  · clear HBT HK
    go_wp2
    go_ret2
    exact ⟨by rw [HR.out]; rfl, hB1⟩
  · have HN := hid (HBT.out rfl)
    have hk := HK.out rfl
    clear HBT HK
    rcases hk with rfl | rfl | rfl | rfl
    all_goals
      go_wp2
      go_ret2
      exact ⟨by rw [HR.out, HN.out]; rfl, hB1⟩
set_option maxRecDepth 100000 in
set_option maxHeartbeats 8000000 in
theorem fnExactNotationBeats_walk (w : World) (k : Int) (p : List Int) (m : List (List Int)) (y : List Beat) (q1 q2 : List PT) (s : Six) (m1 : p.length ≤ maxLen) (m2 : m.length ≤ maxLen) (m3 : ∀ r ∈ m, r.length ≤ maxLen) (m4 : y.length ≤ maxLen) (m5 : q1.length ≤ maxLen) (m6 : q2.length ≤ maxLen) (h : NtRd (k, p, m, y, (q1, q2)) s w) :
    Calls Try.prog 4 #[.agg #[.int .i64 k, .slice s.A p.length s.c, .slice s.A2 m.length s.c2, .slice s.A3 y.length s.c3, .slice s.A4 q1.length s.c4, .slice s.A5 q2.length s.c5]] w fun e w' => e = .returned (.bool true) ∧ Below w.heap.size w w' := by
  obtain ⟨A, c, A2, c2, A3, c3, A4, c4, A5, c5⟩ := s
  simp only
  have hB0 : Below w.heap.size w (w.alloc (Obj.cells #[.int .i64 k, .slice A p.length c, .slice A2 m.length c2, .slice A3 y.length c3, .slice A4 q1.length c4, .slice A5 q2.length c5] 31)) := Below.alloc (Below.refl _ _) (Nat.le_refl _) _
  have hX := Bx.new w 31 #[.int .i64 k, .slice A p.length c, .slice A2 m.length c2, .slice A3 y.length c3, .slice A4 q1.length c4, .slice A5 q2.length c5]
  have hS := hid (szNotation_any k A A2 A3 A4 A5 p.length m.length y.length q1.length q2.length c c2 c3 c4 c5 1048576 m (w.alloc (Obj.cells #[.int .i64 k, .slice A p.length c, .slice A2 m.length c2, .slice A3 y.length c3, .slice A4 q1.length c4, .slice A5 q2.length c5] 31)) m1 m2 m3 m4 m5 m6 (by omega) ((h.below hB0).2.1))
  have HB0 := hid hB0
  have HX := hid hX
  have HH := hid h
  clear h hB0 hX m1 m2 m3 m4 m5 m6
  go_enter Try.func4, Try.ntmps4
  go_wp2_with fail
  refine hS.out.mono ?_
  rintro e w1 ⟨⟨r, rfl, hr⟩, hb1⟩
  have hB1 := bchain HB0.out hb1
  have hX1 := HX.out.below hb1 HX.out.lt
  obtain ⟨⟨a0, a1, a2, a3, a4, a5⟩, -⟩ := zc hX1
  have hl1 := hX1.lt
  rcases hr with rfl | ⟨r0, hr⟩
  · clear hS HX HH HB0 hb1 hX1
    go_wp2
    go_ret
    exact ⟨rfl, hB1⟩
  · have hsm : NtSm (k, p, m, y, (q1, q2)) := NtSm.of_left r0 hr
    have hT := fun (w1 : World) (b : Below w.heap.size w w1) => toNotation_any k p m y q1 q2 ⟨A, c, A2, c2, A3, c3, A4, c4, A5, c5⟩ w1 hsm (HH.out.below b)
    simp only at hT
    have hT := hid hT
    have hF := hid (fun (t : Six) (w1 : World) (h : NtRd (k, p, m, y, (q1, q2)) t w1) => specNotationBeats_any k p m y q1 q2 t w1 hsm h)
    have hG := hid (fun (t : Six) (w1 : World) (h : NtRd (k, p, m, y, (q1, q2)) t w1) => NotationBeats_any k p m y q1 q2 t w1 hsm h)
    have hE := hid (fun (t u : Six) (w1 : World) (h : NtRd (k, p, m, y, (q1, q2)) t w1) (h' : NtRd (k, p, m, y, (q1, q2)) u w1) => eqNotation_same k p m y q1 q2 t u w1 hsm h h')
    obtain ⟨⟨v, u⟩, hb⟩ : ∃ b, rNotationBeats (k, p, m, y, (q1, q2)) = b := ⟨_, rfl⟩
    rw [hb] at hF hG
    simp only at hF hG
    have hbq : (v != v) = false := by simp
    have hbq2 : (u != u) = false := by simp
    have hrn : ¬ r < 0 := by omega
    have HX1 := hid hX1
    clear hS HX HH HB0 hb1 hX1 hr hb hsm
    go_wp2_with fail
    refine (hT.out _ hB1).mono ?_
    rintro e w2 ⟨⟨⟨D, d, D2, d2, D3, d3, D4, d4, D5, d5⟩, rfl, hrd2⟩, hb2⟩
    have HB2 := hid (bchain hB1 hb2)
    have HX2 := hid (HX1.out.below hb2 HX1.out.lt)
    have HR2 := hid hrd2
    simp only
    clear hB1 HX1 hrd2 hb2 a0 a1 a2 a3 a4 a5 hl1 hrn r0
    go_wp2_with fail
    refine (hF.out ⟨D, d, D2, d2, D3, d3, D4, d4, D5, d5⟩ w2 HR2.out).mono ?_
    rintro e w3 ⟨rfl, hb3⟩
    have hB3 := bchain HB2.out hb3
    have hX3 := HX2.out.below hb3 HX2.out.lt
    obtain ⟨⟨a0, a1, a2, a3, a4, a5⟩, -⟩ := zc hX3
    have hl1 := hX3.lt
    have HB3 := hid hB3
    have HX3 := hid hX3
    clear HB2 HX2 HR2 hb3 hB3 hX3 hF
    go_wp2_with fail
    refine (hT.out _ HB3.out).mono ?_
    rintro e w4 ⟨⟨⟨G, g, G2, g2, G3, g3, G4, g4, G5, g5⟩, rfl, hrd4⟩, hb4⟩
    have HB4 := hid (bchain HB3.out hb4)
    have HX4 := hid (HX3.out.below hb4 HX3.out.lt)
    have HBA : Hid (Below w4.heap.size w4 (w4.alloc (Obj.cells #[.int .i64 k, .slice G p.length g, .slice G2 m.length g2, .slice G3 y.length g3, .slice G4 q1.length g4, .slice G5 q2.length g5] 40))) := Below.alloc (Below.refl _ _) (Nat.le_refl _) _
    have HR4 := hid (hrd4.below HBA.out)
    have HY4 := hid (Bx.new w4 40 #[.int .i64 k, .slice G p.length g, .slice G2 m.length g2, .slice G3 y.length g3, .slice G4 q1.length g4, .slice G5 q2.length g5])
    simp only
    clear HB3 HX3 hrd4 hb4 a0 a1 a2 a3 a4 a5 hl1
    go_wp2_with fail
    refine (hG.out ⟨G, g, G2, g2, G3, g3, G4, g4, G5, g5⟩ _ HR4.out).mono ?_
    rintro e w5 ⟨rfl, hb5⟩
    have HB5 := hid ((HB4.out.trans (HBA.out.mono HB4.out.size)).trans (hb5.mono (HB4.out.trans (HBA.out.mono HB4.out.size)).size))
    have HX5 := hid ((HX4.out.alloc (Obj.cells #[.int .i64 k, .slice G p.length g, .slice G2 m.length g2, .slice G3 y.length g3, .slice G4 q1.length g4, .slice G5 q2.length g5] 40)).below hb5 (HX4.out.alloc _).lt)
    have HY5 := hid (HY4.out.below hb5 HY4.out.lt)
    have HR5 := hid (HR4.out.below hb5)
    clear HB4 HX4 HBA HR4 HY4 hb5 hG
    obtain ⟨⟨a0, a1, a2, a3, a4, a5⟩, -⟩ := zc HX5.out
    obtain ⟨⟨b0, b1, b2, b3, b4, b5⟩, -⟩ := zc HY5.out
    have hl1 := HX5.out.lt
    have hl2 := HY5.out.lt
    go_wp2
    go_region_with (first
      | (go_at_call 15; go_loud (with_reducible refine (hT.out _ (by repeat' (first | (with_reducible exact HB5.out) | (with_reducible refine Below.drew ?_)))).mono ?_; rintro e w6 ⟨⟨⟨K, k1, K2, k2, K3, k3, K4, k4, K5, k5⟩, rfl, hrd6⟩, hb6⟩; have hY6 := (Bx.drew HY5.out).below hb6 (Bx.drew HY5.out).lt; obtain ⟨⟨x0, x1, x2, x3, x4, x5⟩, -⟩ := zc hY6; have hR6 := NtRd.below (NtRd.drew HR5.out) hb6; have hB6 := bchain HB5.out.drew hb6))
      | (go_at_call 17; have hEE := hE.out ⟨G, g, G2, g2, G3, g3, G4, g4, G5, g5⟩ ⟨K, k1, K2, k2, K3, k3, K4, k4, K5, k5⟩ _ hR6 hrd6; simp only at hEE; with_reducible refine hEE.mono ?_; rintro e w7 ⟨rfl, hb7⟩; have hB7 := bchain hB6 hb7))
    all_goals
      go_wp2
      go_ret
      exact ⟨rfl, hB7⟩
end Go.Proofs.Ytkglkpohbckpcaa

/- NotationProps: contracts, and the law's walk. -/
namespace Go.Proofs.Ytkglkpohbckpcaa
open Go.RowKit
set_option linter.unusedVariables false

def rNotationProps (x : Note) : Int × Int := if ntOk x then (if x.1 = 1 then (prN x.2.1, 0) else if x.1 = 2 then rMultiProps x.2.2.1 else if x.1 = 3 then rSyncProps x.2.2.2.1 else rPassingProps x.2.2.2.2) else (0, 1)
theorem PropsOf_val (A : Option Addr) (n c : Nat) (p : List Int) (w : World) (hp : okP p = true) (hr : Rd w w.heap.size 1 A n (ints p)) :
    Calls Try.prog 55 #[.slice A n c] w fun e w' => e = .returned (.tuple #[.int .i64 (prN p), .int .i64 0]) ∧ Below w.heap.size w w' := by
  have hlen := hr.len
  have hn2 := (thOk_iff (okP_th hp)).2.2
  have hV := ValidPattern_any A n c p w (by omega) hr
  rw [hp] at hV
  have hV := hid hV
  have hI := hid (fun (w1 : World) (b : Below w.heap.size w w1) => propsOf_any A n c p w1 hp ((hr.below b (Nat.le_refl _)).more b.size))
  generalize prN p = X at *
  clear hp hr hlen hn2
  go_enter Try.func55, Try.ntmps55
  go_wp2_with (first | (go_at_call 90; refine (hV.out).mono ?_; rintro e w1 ⟨rfl, hb1⟩; first | (have hk1 := bchain (by assumption) hb1; obtain ⟨hc1, hf1, hz1, hl1⟩ := bcell hk1) | (obtain ⟨hc1, hf1, hz1, hl1⟩ := bcell hb1)) | (go_at_call 150; refine (hI.out _ hb1).mono ?_; rintro e w2 ⟨rfl, rfl⟩))
  go_ret2
  exact ⟨rfl, (by repeat' (first | exact Below.refl _ _ | (with_reducible assumption) | (with_reducible refine Below.alloc ?_ ?_ _) | (with_reducible refine Below.setCell ?_ ?_ _) | (with_reducible refine Below.drew ?_) | (with_reducible refine below_drewN ?_ _) | (refine Below.trans ?_ (Below.mono (by assumption) ?_)) | (with_reducible exact Nat.le_refl _) | (with_reducible assumption) | (exact Below.size (by assumption)) | omega | go_size | (simp at *; omega)))⟩
set_option maxRecDepth 100000 in
set_option maxHeartbeats 4000000 in
theorem NotationProps_any (k : Int) (p : List Int) (m : List (List Int)) (y : List Beat) (q1 q2 : List PT) (s : Six) (w : World) (hs : NtSm (k, p, m, y, (q1, q2))) (h : NtRd (k, p, m, y, (q1, q2)) s w) :
    Calls Try.prog 21 #[.agg #[.int .i64 k, .slice s.A p.length s.c, .slice s.A2 m.length s.c2, .slice s.A3 y.length s.c3, .slice s.A4 q1.length s.c4, .slice s.A5 q2.length s.c5]] w fun e w' => e = .returned (.tuple #[.int .i64 (rNotationProps (k, p, m, y, (q1, q2))).1, .int .i64 (rNotationProps (k, p, m, y, (q1, q2))).2]) ∧ Below w.heap.size w w' := by
  obtain ⟨A, c, A2, c2, A3, c3, A4, c4, A5, c5⟩ := s
  simp only
  have hB0 : Below w.heap.size w (w.alloc (Obj.cells #[.int .i64 k, .slice A p.length c, .slice A2 m.length c2, .slice A3 y.length c3, .slice A4 q1.length c4, .slice A5 q2.length c5] 40)) := Below.alloc (Below.refl _ _) (Nat.le_refl _) _
  have hX := Bx.new w 40 #[.int .i64 k, .slice A p.length c, .slice A2 m.length c2, .slice A3 y.length c3, .slice A4 q1.length c4, .slice A5 q2.length c5]
  have hV := ValidNotation_any k p m y q1 q2 ⟨A, c, A2, c2, A3, c3, A4, c4, A5, c5⟩ (w.alloc (Obj.cells #[.int .i64 k, .slice A p.length c, .slice A2 m.length c2, .slice A3 y.length c3, .slice A4 q1.length c4, .slice A5 q2.length c5] 40)) hs (h.below hB0)
  obtain ⟨l1, ⟨l2, l3, _⟩, l4, l5, l6⟩ := hs
  simp only at l1 l2 l3 l4 l5 l6 hV
  have H := fun (w1 : World) (b : Below w.heap.size w w1) => h.below b
  unfold NtRd at H
  simp only at H
  have C1 := hid (fun (hp : okP p = true) (w1 : World) (b : Below w.heap.size w w1) => PropsOf_val A p.length c p w1 hp (H w1 b).1)
  have C2 := hid (fun (_ : mOk m = true) (w1 : World) (b : Below w.heap.size w w1) => MultiProps_any A2 m.length c2 m w1 (by omega) (fun r hr => by have := l3 r hr; omega) (H w1 b).2.1)
  have C3 := hid (fun (_ : syOk y = true) (w1 : World) (b : Below w.heap.size w w1) => SyncProps_any A3 y.length c3 y w1 (by omega) (H w1 b).2.2.1)
  have C4 := hid (fun (_ : psOk (q1, q2) = true) (w1 : World) (b : Below w.heap.size w w1) => PassingProps_any A4 A5 q1.length c4 q2.length c5 (q1, q2) w1 (by omega) (by omega) (H w1 b).2.2.2.1 (H w1 b).2.2.2.2)
  obtain ⟨x, hx⟩ : ∃ x : Note, (k, p, m, y, (q1, q2)) = x := ⟨_, rfl⟩
  rw [hx] at hV ⊢
  obtain ⟨b, hb⟩ : ∃ b, ntOk x = b := ⟨_, rfl⟩
  have HR0 : Hid (b = false → rNotationProps x = (0, 1)) := fun h => by rw [rNotationProps, hb, h]; rfl
  have HR1 : Hid (b = true → k = 1 → okP p = true ∧ rNotationProps x = (prN p, 0)) := fun h hk => by
    have h2 := (ntOk_eb (x := x) (by rw [hb, h])).2
    subst hx
    rw [swN_1 hk] at h2
    exact ⟨h2, by rw [rNotationProps, hb, h]; simp only; rw [if_pos trivial, if_pos hk]⟩
  have HR2 : Hid (b = true → k = 2 → mOk m = true ∧ rNotationProps x = rMultiProps m) := fun h hk => by
    have h2 := (ntOk_eb (x := x) (by rw [hb, h])).2
    subst hx
    rw [swN_2 hk] at h2
    exact ⟨h2, by rw [rNotationProps, hb, h]; simp only; rw [if_pos trivial, if_neg (by omega), if_pos hk]⟩
  have HR3 : Hid (b = true → k = 3 → syOk y = true ∧ rNotationProps x = rSyncProps y) := fun h hk => by
    have h2 := (ntOk_eb (x := x) (by rw [hb, h])).2
    subst hx
    rw [swN_3 hk] at h2
    exact ⟨h2, by rw [rNotationProps, hb, h]; simp only; rw [if_pos trivial, if_neg (by omega), if_neg (by omega), if_pos hk]⟩
  have HR4 : Hid (b = true → k = 4 → psOk (q1, q2) = true ∧ rNotationProps x = rPassingProps (q1, q2)) := fun h hk => by
    have h2 := (ntOk_eb (x := x) (by rw [hb, h])).2
    subst hx
    rw [swN_4 hk] at h2
    exact ⟨h2, by rw [rNotationProps, hb, h]; simp only; rw [if_pos trivial, if_neg (by omega), if_neg (by omega), if_neg (by omega)]⟩
  have HK : Hid (b = true → k = 1 ∨ k = 2 ∨ k = 3 ∨ k = 4) := fun h => by
    have := ntOk_kind (x := x) (by rw [hb, h]); rw [← hx] at this; exact this
  rw [hb] at hV
  have hV := hid hV
  have HB0 := hid hB0
  have HX := hid hX
  generalize rNotationProps x = R at *
  clear h H hB0 hX hb hx
  go_enter Try.func21, Try.ntmps21
  go_wp2_with fail
  refine hV.out.mono ?_
  rintro e w1 ⟨rfl, hb1⟩
  have hB1 := bchain HB0.out hb1
  have hX1 := HX.out.below hb1 HX.out.lt
  obtain ⟨⟨a0, a1, a2, a3, a4, a5⟩, -⟩ := zc hX1
  have hl1 := hX1.lt
  clear hV HX HB0 hb1 hX1
  cases b
  · have HZ := hid (HR0.out rfl)
    clear HR0 HR1 HR2 HR3 HR4 HK C1 C2 C3 C4
    go_wp2
    go_ret2
    exact ⟨by rw [HZ.out]; first | done | rfl, hB1⟩
  · have hk := HK.out rfl
    clear HK HR0
    rcases hk with rfl | rfl | rfl | rfl
    · obtain ⟨hv, hr⟩ := HR1.out rfl rfl
      have HZ := hid hr
      have hD := hid (C1.out hv w1 hB1)
      clear C2 HR2 C3 HR3 C4 HR4 C1 HR1 hr hv
      go_wp2_with fail
      refine hD.out.mono ?_
      rintro e w2 ⟨rfl, hb2⟩
      have hB2 := bchain hB1 hb2
      clear hD hb2 a0 a1 a2 a3 a4 a5
      go_wp2
      go_ret2
      exact ⟨by rw [HZ.out]; first | done | rfl, hB2⟩
    · obtain ⟨hv, hr⟩ := HR2.out rfl rfl
      have HZ := hid hr
      have hD := hid (C2.out hv w1 hB1)
      clear C1 HR1 C3 HR3 C4 HR4 C2 HR2 hr hv
      go_wp2_with fail
      refine hD.out.mono ?_
      rintro e w2 ⟨rfl, hb2⟩
      have hB2 := bchain hB1 hb2
      clear hD hb2 a0 a1 a2 a3 a4 a5
      go_wp2
      go_ret2
      exact ⟨by rw [HZ.out]; first | done | rfl, hB2⟩
    · obtain ⟨hv, hr⟩ := HR3.out rfl rfl
      have HZ := hid hr
      have hD := hid (C3.out hv w1 hB1)
      clear C1 HR1 C2 HR2 C4 HR4 C3 HR3 hr hv
      go_wp2_with fail
      refine hD.out.mono ?_
      rintro e w2 ⟨rfl, hb2⟩
      have hB2 := bchain hB1 hb2
      clear hD hb2 a0 a1 a2 a3 a4 a5
      go_wp2
      go_ret2
      exact ⟨by rw [HZ.out]; first | done | rfl, hB2⟩
    · obtain ⟨hv, hr⟩ := HR4.out rfl rfl
      have HZ := hid hr
      have hD := hid (C4.out hv w1 hB1)
      clear C1 HR1 C2 HR2 C3 HR3 C4 HR4 hr hv
      go_wp2_with fail
      refine hD.out.mono ?_
      rintro e w2 ⟨rfl, hb2⟩
      have hB2 := bchain hB1 hb2
      clear hD hb2 a0 a1 a2 a3 a4 a5
      go_wp2
      go_ret2
      exact ⟨by rw [HZ.out]; first | done | rfl, hB2⟩
set_option maxRecDepth 100000 in
set_option maxHeartbeats 4000000 in
theorem specNotationProps_any (k : Int) (p : List Int) (m : List (List Int)) (y : List Beat) (q1 q2 : List PT) (s : Six) (w : World) (hs : NtSm (k, p, m, y, (q1, q2))) (h : NtRd (k, p, m, y, (q1, q2)) s w) :
    Calls Try.prog 20 #[.agg #[.int .i64 k, .slice s.A p.length s.c, .slice s.A2 m.length s.c2, .slice s.A3 y.length s.c3, .slice s.A4 q1.length s.c4, .slice s.A5 q2.length s.c5]] w fun e w' => e = .returned (.tuple #[.int .i64 (rNotationProps (k, p, m, y, (q1, q2))).1, .int .i64 (rNotationProps (k, p, m, y, (q1, q2))).2]) ∧ Below w.heap.size w w' := by
  obtain ⟨A, c, A2, c2, A3, c3, A4, c4, A5, c5⟩ := s
  simp only
  have hB0 : Below w.heap.size w (w.alloc (Obj.cells #[.int .i64 k, .slice A p.length c, .slice A2 m.length c2, .slice A3 y.length c3, .slice A4 q1.length c4, .slice A5 q2.length c5] 40)) := Below.alloc (Below.refl _ _) (Nat.le_refl _) _
  have hX := Bx.new w 40 #[.int .i64 k, .slice A p.length c, .slice A2 m.length c2, .slice A3 y.length c3, .slice A4 q1.length c4, .slice A5 q2.length c5]
  have hV := l07Ok_any w.heap.size k p m y q1 q2 ⟨A, c, A2, c2, A3, c3, A4, c4, A5, c5⟩ _ hs hX (h.below hB0)
  obtain ⟨l1, ⟨l2, l3, _⟩, l4, l5, l6⟩ := hs
  simp only at l1 l2 l3 l4 l5 l6 hV
  have H := fun (w1 : World) (b : Below w.heap.size w w1) => h.below b
  unfold NtRd at H
  simp only at H
  have C1 := hid (fun (hp : okP p = true) (w1 : World) (b : Below w.heap.size w w1) => l02Props_any A p.length c p w1 hp (H w1 b).1)
  have C2 := hid (fun (_ : mOk m = true) (w1 : World) (b : Below w.heap.size w w1) => specMultiProps_any A2 m.length c2 m w1 (by omega) (fun r hr => by have := l3 r hr; omega) (H w1 b).2.1)
  have C3 := hid (fun (_ : syOk y = true) (w1 : World) (b : Below w.heap.size w w1) => specSyncProps_any A3 y.length c3 y w1 (by omega) (H w1 b).2.2.1)
  have C4 := hid (fun (hp : psOk (q1, q2) = true) (w1 : World) (b : Below w.heap.size w w1) (hx : Bo w1 w.heap.size 4 #[.slice A4 q1.length c4, .slice A5 q2.length c5]) => l06Props_at w.heap.size 4 A4 A5 q1.length c4 q2.length c5 (q1, q2) w1 (psOk_iff.1 hp).1 hx (H w1 b).2.2.2.1 (H w1 b).2.2.2.2)
  obtain ⟨x, hx⟩ : ∃ x : Note, (k, p, m, y, (q1, q2)) = x := ⟨_, rfl⟩
  rw [hx] at hV ⊢
  obtain ⟨b, hb⟩ : ∃ b, ntOk x = b := ⟨_, rfl⟩
  have HR0 : Hid (b = false → rNotationProps x = (0, 1)) := fun h => by rw [rNotationProps, hb, h]; rfl
  have HR1 : Hid (b = true → k = 1 → okP p = true ∧ rNotationProps x = (prN p, 0)) := fun h hk => by
    have h2 := (ntOk_eb (x := x) (by rw [hb, h])).2
    subst hx
    rw [swN_1 hk] at h2
    exact ⟨h2, by rw [rNotationProps, hb, h]; simp only; rw [if_pos trivial, if_pos hk]⟩
  have HR2 : Hid (b = true → k = 2 → mOk m = true ∧ rNotationProps x = rMultiProps m) := fun h hk => by
    have h2 := (ntOk_eb (x := x) (by rw [hb, h])).2
    subst hx
    rw [swN_2 hk] at h2
    exact ⟨h2, by rw [rNotationProps, hb, h]; simp only; rw [if_pos trivial, if_neg (by omega), if_pos hk]⟩
  have HR3 : Hid (b = true → k = 3 → syOk y = true ∧ rNotationProps x = rSyncProps y) := fun h hk => by
    have h2 := (ntOk_eb (x := x) (by rw [hb, h])).2
    subst hx
    rw [swN_3 hk] at h2
    exact ⟨h2, by rw [rNotationProps, hb, h]; simp only; rw [if_pos trivial, if_neg (by omega), if_neg (by omega), if_pos hk]⟩
  have HR4 : Hid (b = true → k = 4 → psOk (q1, q2) = true ∧ rNotationProps x = rPassingProps (q1, q2)) := fun h hk => by
    have h2 := (ntOk_eb (x := x) (by rw [hb, h])).2
    subst hx
    rw [swN_4 hk] at h2
    exact ⟨h2, by rw [rNotationProps, hb, h]; simp only; rw [if_pos trivial, if_neg (by omega), if_neg (by omega), if_neg (by omega)]⟩
  have HK : Hid (b = true → k = 1 ∨ k = 2 ∨ k = 3 ∨ k = 4) := fun h => by
    have := ntOk_kind (x := x) (by rw [hb, h]); rw [← hx] at this; exact this
  rw [hb] at hV
  have hV := hid hV
  have HB0 := hid hB0
  have HX := hid hX
  generalize rNotationProps x = R at *
  clear h H hB0 hX hb hx
  go_enter Try.func20, Try.ntmps20
  go_wp2_with fail
  refine hV.out.mono ?_
  rintro e w1 ⟨rfl, hb1⟩
  have hB1 := bchain HB0.out hb1
  have hX1 := HX.out.below hb1 HX.out.lt
  obtain ⟨⟨a0, a1, a2, a3, a4, a5⟩, -⟩ := zc hX1
  have hl1 := hX1.lt
  clear hV HX HB0 hb1 hX1
  cases b
  · have HZ := hid (HR0.out rfl)
    clear HR0 HR1 HR2 HR3 HR4 HK C1 C2 C3 C4
    go_wp2
    go_ret2
    exact ⟨by rw [HZ.out]; first | done | rfl, hB1⟩
  · have hk := HK.out rfl
    clear HK HR0
    rcases hk with rfl | rfl | rfl | rfl
    · obtain ⟨hv, hr⟩ := HR1.out rfl rfl
      have HZ := hid hr
      have hD := hid (C1.out hv w1 hB1)
      clear C2 HR2 C3 HR3 C4 HR4 C1 HR1 hr hv
      go_wp2_with fail
      refine hD.out.mono ?_
      rintro e w2 ⟨rfl, rfl⟩
      clear hD a0 a1 a2 a3 a4 a5
      go_wp2
      go_ret2
      exact ⟨by rw [HZ.out]; first | done | rfl, hB1⟩
    · obtain ⟨hv, hr⟩ := HR2.out rfl rfl
      have HZ := hid hr
      have hD := hid (C2.out hv w1 hB1)
      clear C1 HR1 C3 HR3 C4 HR4 C2 HR2 hr hv
      go_wp2_with fail
      refine hD.out.mono ?_
      rintro e w2 ⟨rfl, hb2⟩
      have hB2 := bchain hB1 hb2
      clear hD hb2 a0 a1 a2 a3 a4 a5
      go_wp2
      go_ret2
      exact ⟨by rw [HZ.out]; first | done | rfl, hB2⟩
    · obtain ⟨hv, hr⟩ := HR3.out rfl rfl
      have HZ := hid hr
      have hD := hid (C3.out hv w1 hB1)
      clear C1 HR1 C2 HR2 C4 HR4 C3 HR3 hr hv
      go_wp2_with fail
      refine hD.out.mono ?_
      rintro e w2 ⟨rfl, hb2⟩
      have hB2 := bchain hB1 hb2
      clear hD hb2 a0 a1 a2 a3 a4 a5
      go_wp2
      go_ret2
      exact ⟨by rw [HZ.out]; first | done | rfl, hB2⟩
    · obtain ⟨hv, hr⟩ := HR4.out rfl rfl
      have HZ : Hid (R = (sP2 q1 q2 / (q1.length : Int), 0)) := by show _ = _; rw [hr, rPassingProps, hv]; rfl
      have hD := hid (C4.out hv w1 hB1 (Bo.two hl1 a4 a5))
      clear C1 HR1 C2 HR2 C3 HR3 C4 HR4 hr hv
      go_wp2_with fail
      refine hD.out.mono ?_
      rintro e w2 ⟨rfl, hb2⟩
      have hB2 := bchain hB1 hb2
      clear hD hb2 a0 a1 a2 a3 a4 a5
      go_wp2
      go_ret2
      exact ⟨by rw [HZ.out]; first | done | rfl, hB2⟩
set_option maxRecDepth 100000 in
set_option maxHeartbeats 8000000 in
theorem fnExactNotationProps_walk (w : World) (k : Int) (p : List Int) (m : List (List Int)) (y : List Beat) (q1 q2 : List PT) (s : Six) (m1 : p.length ≤ maxLen) (m2 : m.length ≤ maxLen) (m3 : ∀ r ∈ m, r.length ≤ maxLen) (m4 : y.length ≤ maxLen) (m5 : q1.length ≤ maxLen) (m6 : q2.length ≤ maxLen) (h : NtRd (k, p, m, y, (q1, q2)) s w) :
    Calls Try.prog 5 #[.agg #[.int .i64 k, .slice s.A p.length s.c, .slice s.A2 m.length s.c2, .slice s.A3 y.length s.c3, .slice s.A4 q1.length s.c4, .slice s.A5 q2.length s.c5]] w fun e w' => e = .returned (.bool true) ∧ Below w.heap.size w w' := by
  obtain ⟨A, c, A2, c2, A3, c3, A4, c4, A5, c5⟩ := s
  simp only
  have hB0 : Below w.heap.size w (w.alloc (Obj.cells #[.int .i64 k, .slice A p.length c, .slice A2 m.length c2, .slice A3 y.length c3, .slice A4 q1.length c4, .slice A5 q2.length c5] 31)) := Below.alloc (Below.refl _ _) (Nat.le_refl _) _
  have hX := Bx.new w 31 #[.int .i64 k, .slice A p.length c, .slice A2 m.length c2, .slice A3 y.length c3, .slice A4 q1.length c4, .slice A5 q2.length c5]
  have hS := hid (szNotation_any k A A2 A3 A4 A5 p.length m.length y.length q1.length q2.length c c2 c3 c4 c5 1048576 m (w.alloc (Obj.cells #[.int .i64 k, .slice A p.length c, .slice A2 m.length c2, .slice A3 y.length c3, .slice A4 q1.length c4, .slice A5 q2.length c5] 31)) m1 m2 m3 m4 m5 m6 (by omega) ((h.below hB0).2.1))
  have HB0 := hid hB0
  have HX := hid hX
  have HH := hid h
  clear h hB0 hX m1 m2 m3 m4 m5 m6
  go_enter Try.func5, Try.ntmps5
  go_wp2_with fail
  refine hS.out.mono ?_
  rintro e w1 ⟨⟨r, rfl, hr⟩, hb1⟩
  have hB1 := bchain HB0.out hb1
  have hX1 := HX.out.below hb1 HX.out.lt
  obtain ⟨⟨a0, a1, a2, a3, a4, a5⟩, -⟩ := zc hX1
  have hl1 := hX1.lt
  rcases hr with rfl | ⟨r0, hr⟩
  · clear hS HX HH HB0 hb1 hX1
    go_wp2
    go_ret
    exact ⟨rfl, hB1⟩
  · have hsm : NtSm (k, p, m, y, (q1, q2)) := NtSm.of_left r0 hr
    have hT := fun (w1 : World) (b : Below w.heap.size w w1) => toNotation_any k p m y q1 q2 ⟨A, c, A2, c2, A3, c3, A4, c4, A5, c5⟩ w1 hsm (HH.out.below b)
    simp only at hT
    have hT := hid hT
    have hF := hid (fun (t : Six) (w1 : World) (h : NtRd (k, p, m, y, (q1, q2)) t w1) => specNotationProps_any k p m y q1 q2 t w1 hsm h)
    have hG := hid (fun (t : Six) (w1 : World) (h : NtRd (k, p, m, y, (q1, q2)) t w1) => NotationProps_any k p m y q1 q2 t w1 hsm h)
    have hE := hid (fun (t u : Six) (w1 : World) (h : NtRd (k, p, m, y, (q1, q2)) t w1) (h' : NtRd (k, p, m, y, (q1, q2)) u w1) => eqNotation_same k p m y q1 q2 t u w1 hsm h h')
    obtain ⟨⟨v, u⟩, hb⟩ : ∃ b, rNotationProps (k, p, m, y, (q1, q2)) = b := ⟨_, rfl⟩
    rw [hb] at hF hG
    simp only at hF hG
    have hbq : (v != v) = false := by simp
    have hbq2 : (u != u) = false := by simp
    have hrn : ¬ r < 0 := by omega
    have HX1 := hid hX1
    clear hS HX HH HB0 hb1 hX1 hr hb hsm
    go_wp2_with fail
    refine (hT.out _ hB1).mono ?_
    rintro e w2 ⟨⟨⟨D, d, D2, d2, D3, d3, D4, d4, D5, d5⟩, rfl, hrd2⟩, hb2⟩
    have HB2 := hid (bchain hB1 hb2)
    have HX2 := hid (HX1.out.below hb2 HX1.out.lt)
    have HR2 := hid hrd2
    simp only
    clear hB1 HX1 hrd2 hb2 a0 a1 a2 a3 a4 a5 hl1 hrn r0
    go_wp2_with fail
    refine (hF.out ⟨D, d, D2, d2, D3, d3, D4, d4, D5, d5⟩ w2 HR2.out).mono ?_
    rintro e w3 ⟨rfl, hb3⟩
    have hB3 := bchain HB2.out hb3
    have hX3 := HX2.out.below hb3 HX2.out.lt
    obtain ⟨⟨a0, a1, a2, a3, a4, a5⟩, -⟩ := zc hX3
    have hl1 := hX3.lt
    have HB3 := hid hB3
    have HX3 := hid hX3
    clear HB2 HX2 HR2 hb3 hB3 hX3 hF
    go_wp2_with fail
    refine (hT.out _ HB3.out).mono ?_
    rintro e w4 ⟨⟨⟨G, g, G2, g2, G3, g3, G4, g4, G5, g5⟩, rfl, hrd4⟩, hb4⟩
    have HB4 := hid (bchain HB3.out hb4)
    have HX4 := hid (HX3.out.below hb4 HX3.out.lt)
    have HBA : Hid (Below w4.heap.size w4 (w4.alloc (Obj.cells #[.int .i64 k, .slice G p.length g, .slice G2 m.length g2, .slice G3 y.length g3, .slice G4 q1.length g4, .slice G5 q2.length g5] 40))) := Below.alloc (Below.refl _ _) (Nat.le_refl _) _
    have HR4 := hid (hrd4.below HBA.out)
    have HY4 := hid (Bx.new w4 40 #[.int .i64 k, .slice G p.length g, .slice G2 m.length g2, .slice G3 y.length g3, .slice G4 q1.length g4, .slice G5 q2.length g5])
    simp only
    clear HB3 HX3 hrd4 hb4 a0 a1 a2 a3 a4 a5 hl1
    go_wp2_with fail
    refine (hG.out ⟨G, g, G2, g2, G3, g3, G4, g4, G5, g5⟩ _ HR4.out).mono ?_
    rintro e w5 ⟨rfl, hb5⟩
    have HB5 := hid ((HB4.out.trans (HBA.out.mono HB4.out.size)).trans (hb5.mono (HB4.out.trans (HBA.out.mono HB4.out.size)).size))
    have HX5 := hid ((HX4.out.alloc (Obj.cells #[.int .i64 k, .slice G p.length g, .slice G2 m.length g2, .slice G3 y.length g3, .slice G4 q1.length g4, .slice G5 q2.length g5] 40)).below hb5 (HX4.out.alloc _).lt)
    have HY5 := hid (HY4.out.below hb5 HY4.out.lt)
    have HR5 := hid (HR4.out.below hb5)
    clear HB4 HX4 HBA HR4 HY4 hb5 hG
    obtain ⟨⟨a0, a1, a2, a3, a4, a5⟩, -⟩ := zc HX5.out
    obtain ⟨⟨b0, b1, b2, b3, b4, b5⟩, -⟩ := zc HY5.out
    have hl1 := HX5.out.lt
    have hl2 := HY5.out.lt
    go_wp2
    go_region_with (first
      | (go_at_call 15; go_loud (with_reducible refine (hT.out _ (by repeat' (first | (with_reducible exact HB5.out) | (with_reducible refine Below.drew ?_)))).mono ?_; rintro e w6 ⟨⟨⟨K, k1, K2, k2, K3, k3, K4, k4, K5, k5⟩, rfl, hrd6⟩, hb6⟩; have hY6 := (Bx.drew HY5.out).below hb6 (Bx.drew HY5.out).lt; obtain ⟨⟨x0, x1, x2, x3, x4, x5⟩, -⟩ := zc hY6; have hR6 := NtRd.below (NtRd.drew HR5.out) hb6; have hB6 := bchain HB5.out.drew hb6))
      | (go_at_call 17; have hEE := hE.out ⟨G, g, G2, g2, G3, g3, G4, g4, G5, g5⟩ ⟨K, k1, K2, k2, K3, k3, K4, k4, K5, k5⟩ _ hR6 hrd6; simp only at hEE; with_reducible refine hEE.mono ?_; rintro e w7 ⟨rfl, hb7⟩; have hB7 := bchain hB6 hb7))
    all_goals
      go_wp2
      go_ret
      exact ⟨rfl, hB7⟩
end Go.Proofs.Ytkglkpohbckpcaa
