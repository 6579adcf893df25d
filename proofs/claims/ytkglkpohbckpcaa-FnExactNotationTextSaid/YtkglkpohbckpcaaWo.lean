/- A notation that came in as an argument, opened: what its lists read as. -/
import Derived.Test.YtkglkpohbckpcaaWa
import Derived.Deep.Slices
import Derived.ChangeSame
import Derived.SizedLaws
namespace Go.Proofs.Ytkglkpohbckpcaa
open Go.RowKit Go.ChangeShapes Go.WideShapes Go.Deep
set_option linter.unusedVariables false

section
variable {H : Type} {enc : TypeId × Value → H} {P : Program} {w : World} {base : Nat} {held : Bool}

theorem flat_at {α : Type} (f : α → List Value) (sz : Nat) (hf : ∀ a, (f a).length = sz) : ∀ (xs : List α) (i r : Nat), r < sz → (xs.flatMap f)[i * sz + r]? = (xs[i]?).bind fun a => (f a)[r]? := by
  intro xs
  induction xs with
  | nil => intro i r _; simp
  | cons a xs ih =>
    intro i r hr
    have e : (a :: xs).flatMap f = f a ++ xs.flatMap f := rfl
    rw [e]
    cases i with
    | zero => rw [Nat.zero_mul, Nat.zero_add, List.getElem?_append_left (by rw [hf]; exact hr)]; rfl
    | succ i =>
      rw [List.getElem?_append_right (by rw [hf, Nat.succ_mul]; omega), hf, show (i + 1) * sz + r - sz = i * sz + r by rw [Nat.succ_mul]; omega, ih i r hr]; rfl
theorem flat_len {α : Type} (f : α → List Value) (sz : Nat) (hf : ∀ a, (f a).length = sz) (xs : List α) : (xs.flatMap f).length = xs.length * sz := by
  induction xs with
  | nil => simp
  | cons a xs ih =>
    have e : (a :: xs).flatMap f = f a ++ xs.flatMap f := rfl
    rw [e, List.length_append, hf, ih, List.length_cons, Nat.succ_mul]; omega
theorem cells_at {a : Addr} {b off : Nat} (ha : a = ⟨b, off, none⟩) (i j : Nat) : (a.add i).add j = ⟨b, off + (i + j), none⟩ := by
  subst ha
  rw [add_add]
  unfold Addr.add; split <;> simp_all
theorem add_at {b off i : Nat} : (⟨b, off, none⟩ : Addr).add i = ⟨b, off + i, none⟩ := by unfold Addr.add; split <;> simp_all
/-- A slice that came in, its elements of a known form. -/
theorem open_rows {α : Type} [Inhabited α] {sz : Nat} (f : α → List Value) (hf : ∀ a, (f a).length = sz) (hsz : 0 < sz) {t e : TypeId} {fuel : Nat} {v : Value} {x : DataW H × List MemPlace} (ht : P.underlying t = some (.slice e)) (hc : P.cellsOf e = sz)
    (Q : α → Prop) (hel : ∀ (n : Nat) (cs : List Value) (y : DataW H × List MemPlace), DataW.trod enc P w base (fun _ => true) held n e cs = some y → ∃ a, cs = f a ∧ Q a)
    (h : DataW.trod enc P w base (fun _ => true) held fuel t [v] = some x) :
    ∃ (A : Option Addr) (c : Nat) (xs : List α), v = .slice A xs.length c ∧ xs.length ≤ maxLen ∧ (∀ a ∈ xs, Q a) ∧ Rd w w.heap.size sz A xs.length (xs.flatMap f) := by
  rcases open_slice ht h with ⟨hcs, _⟩ | ⟨a, len, cap, m, n, D, Pl, hcs, hb, hl, hm, hmm, hx, hall⟩
  · simp at hcs
    subst hcs
    exact ⟨none, 0, [], rfl, by simp, by simp, by simp, fun h => absurd h (by simp)⟩
  · simp at hcs
    subst hcs
    have hmc : m = cap := by simpa using hmm
    have hall2 : ∀ i, i < len → ∃ y : α, (∃ cs, w.cells? base (a.add (i * sz)) sz = some cs ∧ cs = f y) ∧ Q y := fun i hi => by
      obtain ⟨cs, h1, h2⟩ := hall i (by omega)
      rw [hc] at h1
      obtain ⟨y, hy, hq⟩ := hel n cs _ h2
      exact ⟨y, ⟨cs, h1, hy⟩, hq⟩
    obtain ⟨g, hg⟩ := choose_lt hall2
    have hlen : ((List.range len).map g).length = len := by simp
    refine ⟨some a, cap, (List.range len).map g, by rw [hlen], by rw [hlen]; omega, fun y hy => ?_, ?_, fun hn => ?_⟩
    · obtain ⟨i, hi, rfl⟩ := List.mem_map.1 hy
      exact (hg i (by simpa using hi)).2
    · rw [flat_len f sz hf]
    · rw [hlen] at hn
      obtain ⟨b, off, spot⟩ := a
      have hcell : ∀ i r, i < len → r < sz → w.cell? (((⟨b, off, spot⟩ : Addr).add (i * sz)).add r) = (f (g i))[r]? := fun i r hi hr => by
        obtain ⟨⟨cs, h1, rfl⟩, _⟩ := hg i hi
        exact (World.cells?_some h1).2.2 r hr
      have h0 := hcell 0 0 hn hsz
      have h00 : (f (g 0))[0]? = some ((f (g 0))[0]'(by rw [hf]; exact hsz)) := List.getElem?_eq_getElem _
      rw [h00, Nat.zero_mul] at h0
      have hs : spot = none := by simpa [Addr.add] using World.cell?_spot h0
      subst hs
      have hbl : b < w.heap.size := by
        have := World.block_lt_of_cell? w _ h0
        simpa [Addr.add] using this
      refine ⟨b, off, rfl, hbl, fun j u hu => ?_⟩
      have hj : j < len * sz := by
        have := (List.getElem?_eq_some_iff.1 hu).1
        rw [flat_len f sz hf, hlen] at this; exact this
      have hdm : j / sz * sz + j % sz = j := by rw [Nat.mul_comm]; exact Nat.div_add_mod j sz
      have hr : j % sz < sz := Nat.mod_lt _ hsz
      have hi : j / sz < len := Nat.div_lt_of_lt_mul (by rw [Nat.mul_comm]; exact hj)
      have h1 := hcell (j / sz) (j % sz) hi hr
      rw [cells_at rfl, hdm] at h1
      rw [h1, ← hu]
      conv => rhs; rw [← hdm, flat_at f sz hf _ _ _ hr]
      rw [List.getElem?_map, List.getElem?_range hi]; rfl
end
section
variable {H : Type} {enc : TypeId × Value → H} {w : World} {held : Bool}
theorem cells_int : Try.prog.cellsOf 2 = 1 := by kernel_rfl
theorem cells_bool : Try.prog.cellsOf 4 = 1 := by kernel_rfl
theorem cells_ints : Try.prog.cellsOf 22 = 1 := by kernel_rfl
theorem cells_rows : Try.prog.cellsOf 23 = 1 := by kernel_rfl
theorem cells_multi : Try.prog.cellsOf 25 = 1 := by kernel_rfl
theorem cells_bt : Try.prog.cellsOf 166 = 4 := by kernel_rfl
theorem cells_st : Try.prog.cellsOf 164 = 2 := by kernel_rfl
theorem cells_bts : Try.prog.cellsOf 26 = 1 := by kernel_rfl
theorem cells_pt : Try.prog.cellsOf 195 = 2 := by kernel_rfl
theorem cells_pts : Try.prog.cellsOf 27 = 1 := by kernel_rfl
theorem cells_ps : Try.prog.cellsOf 29 = 2 := by kernel_rfl
theorem cells_nt : Try.prog.cellsOf 31 = 6 := by kernel_rfl
theorem twoV {cs : List Value} (h : cs.length = 2) : ∃ a b, cs = [a, b] := by
  match cs, h with
  | [a, b], _ => exact ⟨a, b, rfl⟩
theorem fourV {cs : List Value} (h : cs.length = 4) : ∃ a b c d, cs = [a, b, c, d] := by
  match cs, h with
  | [a, b, c, d], _ => exact ⟨a, b, c, d, rfl⟩
theorem sixV {cs : List Value} (h : cs.length = 6) : ∃ a b c d e f, cs = [a, b, c, d, e, f] := by
  match cs, h with
  | [a, b, c, d, e, f], _ => exact ⟨a, b, c, d, e, f, rfl⟩
theorem el_int (n : Nat) (cs : List Value) (y : DataW H × List MemPlace) (h : DataW.trod enc Try.prog w 0 (fun _ => true) held n 2 cs = some y) : ∃ a : Int, cs = [Value.int .i64 a] := by
  obtain ⟨a, rfl, _, _⟩ := DataW.trod_int Try.underlying2 h
  exact ⟨a, rfl⟩
theorem el_bool (n : Nat) (cs : List Value) (y : DataW H × List MemPlace) (h : DataW.trod enc Try.prog w 0 (fun _ => true) held n 4 cs = some y) : ∃ a : Bool, cs = [Value.bool a] := by
  obtain ⟨a, rfl, _⟩ := DataW.trod_bool Try.underlying4 h
  exact ⟨a, rfl⟩
theorem el_pt (n : Nat) (cs : List Value) (y : DataW H × List MemPlace) (h : DataW.trod enc Try.prog w 0 (fun _ => true) held n 195 cs = some y) : ∃ a : PT, cs = thc a ∧ True := by
  obtain ⟨xs, m, _, _, hl, hxl, hf⟩ := DataW.trod_struct Try.underlying195 h
  rw [cells_pt] at hl
  obtain ⟨c0, c1, rfl⟩ := twoV hl
  have f0 := hf 0 _ rfl
  have f1 := hf 1 _ rfl
  simp [cells_int, cells_bool] at f0 f1 hxl
  obtain ⟨y0, f0⟩ : ∃ y0, DataW.trod enc Try.prog w 0 (fun _ => true) held m 2 [c0] = some y0 := ⟨_, f0.trans (List.getElem?_eq_getElem (by omega))⟩
  obtain ⟨y1, f1⟩ : ∃ y1, DataW.trod enc Try.prog w 0 (fun _ => true) held m 4 [c1] = some y1 := ⟨_, f1.trans (List.getElem?_eq_getElem (by omega))⟩
  obtain ⟨a, ha⟩ := el_int _ _ _ f0
  obtain ⟨b, hb⟩ := el_bool _ _ _ f1
  simp at ha hb
  subst ha hb
  exact ⟨(a, b), rfl, trivial⟩
theorem el_st (n : Nat) (cs : List Value) (y : DataW H × List MemPlace) (h : DataW.trod enc Try.prog w 0 (fun _ => true) held n 164 cs = some y) : ∃ (a : Int) (b : Bool), cs = [Value.int .i64 a, .bool b] := by
  obtain ⟨xs, m, _, _, hl, hxl, hf⟩ := DataW.trod_struct Try.underlying164 h
  rw [cells_st] at hl
  obtain ⟨c0, c1, rfl⟩ := twoV hl
  have f0 := hf 0 _ rfl
  have f1 := hf 1 _ rfl
  simp [cells_int, cells_bool] at f0 f1 hxl
  obtain ⟨y0, f0⟩ : ∃ y0, DataW.trod enc Try.prog w 0 (fun _ => true) held m 2 [c0] = some y0 := ⟨_, f0.trans (List.getElem?_eq_getElem (by omega))⟩
  obtain ⟨y1, f1⟩ : ∃ y1, DataW.trod enc Try.prog w 0 (fun _ => true) held m 4 [c1] = some y1 := ⟨_, f1.trans (List.getElem?_eq_getElem (by omega))⟩
  obtain ⟨a, ha⟩ := el_int _ _ _ f0
  obtain ⟨b, hb⟩ := el_bool _ _ _ f1
  simp at ha hb
  subst ha hb
  exact ⟨a, b, rfl⟩
theorem el_bt (n : Nat) (cs : List Value) (y : DataW H × List MemPlace) (h : DataW.trod enc Try.prog w 0 (fun _ => true) held n 166 cs = some y) : ∃ a : Beat, cs = btC a ∧ True := by
  obtain ⟨xs, m, _, _, hl, hxl, hf⟩ := DataW.trod_struct Try.underlying166 h
  rw [cells_bt] at hl
  obtain ⟨c0, c1, c2, c3, rfl⟩ := fourV hl
  have f0 := hf 0 _ rfl
  have f1 := hf 1 _ rfl
  simp [cells_st] at f0 f1 hxl
  obtain ⟨y0, f0⟩ : ∃ y0, DataW.trod enc Try.prog w 0 (fun _ => true) held m 164 [c0, c1] = some y0 := ⟨_, f0.trans (List.getElem?_eq_getElem (by omega))⟩
  obtain ⟨y1, f1⟩ : ∃ y1, DataW.trod enc Try.prog w 0 (fun _ => true) held m 164 [c2, c3] = some y1 := ⟨_, f1.trans (List.getElem?_eq_getElem (by omega))⟩
  obtain ⟨a, b, ha⟩ := el_st _ _ _ f0
  obtain ⟨c, d, hb⟩ := el_st _ _ _ f1
  simp at ha hb
  obtain ⟨rfl, rfl⟩ := ha
  obtain ⟨rfl, rfl⟩ := hb
  exact ⟨((a, b), (c, d)), rfl, trivial⟩
/-- A row of a slice of slices: where it lies, and what it reads as. -/
structure RowAt where
  A : Option Addr
  c : Nat
  row : List Int
instance : Inhabited RowAt := ⟨⟨none, 0, []⟩⟩
theorem flat_ints (xs : List Int) : xs.flatMap (fun a => [Value.int .i64 a]) = ints xs := by
  induction xs with
  | nil => rfl
  | cons a xs ih => simp [ints] at ih ⊢; exact ih
theorem open_int_row (n : Nat) (v : Value) (y : DataW H × List MemPlace) (h : DataW.trod enc Try.prog w 0 (fun _ => true) held n 22 [v] = some y) :
    ∃ (A : Option Addr) (c : Nat) (xs : List Int), v = .slice A xs.length c ∧ xs.length ≤ maxLen ∧ Rd w w.heap.size 1 A xs.length (ints xs) := by
  obtain ⟨A, c, xs, h1, h2, _, h4⟩ := open_rows (sz := 1) (fun a : Int => [Value.int .i64 a]) (fun _ => rfl) (by omega) Try.underlying22 cells_int (fun _ => True) (fun n cs y h => by obtain ⟨a, ha⟩ := el_int n cs y h; exact ⟨a, ha, trivial⟩) h
  rw [flat_ints] at h4
  exact ⟨A, c, xs, h1, h2, h4⟩
theorem el_row (n : Nat) (cs : List Value) (y : DataW H × List MemPlace) (h : DataW.trod enc Try.prog w 0 (fun _ => true) held n 22 cs = some y) :
    ∃ a : RowAt, cs = [Value.slice a.A a.row.length a.c] ∧ (a.row.length ≤ maxLen ∧ Rd w w.heap.size 1 a.A a.row.length (ints a.row)) := by
  have hcs : ∃ v, cs = [v] := by
    rcases DataW.trod_slice Try.underlying22 h with ⟨rfl, _⟩ | ⟨a, len, cap, elems, rest, n, _, rfl, _⟩
    · exact ⟨_, rfl⟩
    · exact ⟨_, rfl⟩
  obtain ⟨v, rfl⟩ := hcs
  obtain ⟨A, c, xs, rfl, h2, h3⟩ := open_int_row n v y h
  exact ⟨⟨A, c, xs⟩, rfl, h2, h3⟩
theorem open_grid (n : Nat) (v : Value) (y : DataW H × List MemPlace) (h : DataW.trod enc Try.prog w 0 (fun _ => true) held n 23 [v] = some y) :
    ∃ (A : Option Addr) (c : Nat) (rows : List (List Int)), v = .slice A rows.length c ∧ rows.length ≤ maxLen ∧ (∀ r ∈ rows, r.length ≤ maxLen) ∧ RdG w w.heap.size A rows.length rows := by
  obtain ⟨A, c, xs, h1, h2, h3, h4⟩ := open_rows (sz := 1) (fun a : RowAt => [Value.slice a.A a.row.length a.c]) (fun _ => rfl) (by omega) Try.underlying23 cells_ints (fun a => a.row.length ≤ maxLen ∧ Rd w w.heap.size 1 a.A a.row.length (ints a.row)) (fun n cs y h => el_row n cs y h) h
  refine ⟨A, c, xs.map (·.row), by rw [List.length_map]; exact h1, by rw [List.length_map]; exact h2, fun r hr => ?_, by rw [List.length_map], fun hn => ?_⟩
  · obtain ⟨a, ha, rfl⟩ := List.mem_map.1 hr
    exact (h3 a ha).1
  · rw [List.length_map] at hn
    obtain ⟨b, off, hA, hb, hc⟩ := h4.2 hn
    refine ⟨b, off, hA, hb, fun j row hj => ?_⟩
    rw [List.getElem?_map, Option.map_eq_some_iff] at hj
    obtain ⟨a, ha, rfl⟩ := hj
    refine ⟨a.A, a.c, hc j _ ?_, (h3 a (List.mem_of_getElem? ha)).2⟩
    have h5 := flat_at (fun a : RowAt => [Value.slice a.A a.row.length a.c]) 1 (fun _ => rfl) xs j 0 (by omega)
    rw [Nat.mul_one, Nat.add_zero, ha] at h5
    exact h5
set_option maxRecDepth 100000 in
/-- A notation that came in. -/
theorem open_note {r : Reach} {b0 : Nat} {v : Value} {d : DataW H} {q : List MemPlace} (hv : Value.okWide Try.prog w r b0 31 v) (h : DataW.Trod enc Try.prog w 0 (fun _ => true) held 31 v d q) :
    ∃ (k : Int) (p : List Int) (m : List (List Int)) (y : List Beat) (q1 q2 : List PT) (s : Six), v = .agg #[.int .i64 k, .slice s.A p.length s.c, .slice s.A2 m.length s.c2, .slice s.A3 y.length s.c3, .slice s.A4 q1.length s.c4, .slice s.A5 q2.length s.c5] ∧
      p.length ≤ maxLen ∧ m.length ≤ maxLen ∧ (∀ r ∈ m, r.length ≤ maxLen) ∧ y.length ≤ maxLen ∧ q1.length ≤ maxLen ∧ q2.length ≤ maxLen ∧ NtRd (k, p, m, y, (q1, q2)) s w := by
  obtain ⟨cs, rfl, hsz⟩ := okWide_struct Try.underlying31 hv
  rw [cells_nt] at hsz
  obtain ⟨fuel, hf⟩ := h
  obtain ⟨cl⟩ := cs
  obtain ⟨c0, c1, c2, c3, c4, c5, rfl⟩ := sixV (by simpa using hsz)
  obtain ⟨xs, n, _, _, _, hxl, hall⟩ := DataW.trod_struct Try.underlying31 hf
  have f0 := hall 0 _ rfl
  have f1 := hall 1 _ rfl
  have f2 := hall 2 _ rfl
  have f3 := hall 3 _ rfl
  have f4 := hall 4 _ rfl
  simp [Value.cells, cells_int, cells_ints, cells_multi, cells_bts, cells_ps] at f0 f1 f2 f3 f4 hxl
  obtain ⟨y0, f0⟩ : ∃ y0, DataW.trod enc Try.prog w 0 (fun _ => true) held n 2 [c0] = some y0 := ⟨_, f0.trans (List.getElem?_eq_getElem (by omega))⟩
  obtain ⟨y1, f1⟩ : ∃ y1, DataW.trod enc Try.prog w 0 (fun _ => true) held n 22 [c1] = some y1 := ⟨_, f1.trans (List.getElem?_eq_getElem (by omega))⟩
  obtain ⟨y2, f2⟩ : ∃ y2, DataW.trod enc Try.prog w 0 (fun _ => true) held n 25 [c2] = some y2 := ⟨_, f2.trans (List.getElem?_eq_getElem (by omega))⟩
  obtain ⟨y3, f3⟩ : ∃ y3, DataW.trod enc Try.prog w 0 (fun _ => true) held n 26 [c3] = some y3 := ⟨_, f3.trans (List.getElem?_eq_getElem (by omega))⟩
  obtain ⟨y4, f4⟩ : ∃ y4, DataW.trod enc Try.prog w 0 (fun _ => true) held n 29 [c4, c5] = some y4 := ⟨_, f4.trans (List.getElem?_eq_getElem (by omega))⟩
  obtain ⟨k, hk⟩ := el_int _ _ _ f0
  simp at hk
  subst hk
  obtain ⟨A, c, p, rfl, hp, hp2⟩ := open_int_row _ _ _ f1
  obtain ⟨xs2, n2, _, _, _, hxl2, hall2⟩ := DataW.trod_struct Try.underlying25 f2
  have g0 := hall2 0 _ rfl
  simp [cells_rows] at g0 hxl2
  obtain ⟨z0, g0⟩ : ∃ z0, DataW.trod enc Try.prog w 0 (fun _ => true) held n2 23 [c2] = some z0 := ⟨_, g0.trans (List.getElem?_eq_getElem (by omega))⟩
  obtain ⟨A2, d2, m, rfl, hm, hm1, hm2⟩ := open_grid _ _ _ g0
  obtain ⟨A3, d3, y, rfl, hy, _, hy2⟩ := open_rows (sz := 4) btC (fun _ => rfl) (by omega) Try.underlying26 cells_bt (fun _ => True) (fun n cs y h => el_bt n cs y h) f3
  obtain ⟨xs4, n4, _, _, _, hxl4, hall4⟩ := DataW.trod_struct Try.underlying29 f4
  have e0 := hall4 0 _ rfl
  have e1 := hall4 1 _ rfl
  simp [cells_pts] at e0 e1 hxl4
  obtain ⟨w0, e0⟩ : ∃ z0, DataW.trod enc Try.prog w 0 (fun _ => true) held n4 27 [c4] = some z0 := ⟨_, e0.trans (List.getElem?_eq_getElem (by omega))⟩
  obtain ⟨w1, e1⟩ : ∃ z0, DataW.trod enc Try.prog w 0 (fun _ => true) held n4 27 [c5] = some z0 := ⟨_, e1.trans (List.getElem?_eq_getElem (by omega))⟩
  obtain ⟨A4, d4, q1, rfl, hq1, _, hq12⟩ := open_rows (sz := 2) thc (fun _ => rfl) (by omega) Try.underlying27 cells_pt (fun _ => True) (fun n cs y h => el_pt n cs y h) e0
  obtain ⟨A5, d5, q2, rfl, hq2, _, hq22⟩ := open_rows (sz := 2) thc (fun _ => rfl) (by omega) Try.underlying27 cells_pt (fun _ => True) (fun n cs y h => el_pt n cs y h) e1
  exact ⟨k, p, m, y, q1, q2, ⟨A, c, A2, d2, A3, d3, A4, d4, A5, d5⟩, rfl, hp, hm, hm1, hy, hq1, hq2, hp2, hm2, hy2, hq12, hq22⟩
end
end Go.Proofs.Ytkglkpohbckpcaa
