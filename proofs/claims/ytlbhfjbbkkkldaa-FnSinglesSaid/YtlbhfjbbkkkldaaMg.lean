/- Contracts of l04Bent, DrawMultiText. -/
import Derived.Test.YtlbhfjbbkkkldaaMd
import Derived.Test.YtlbhfjbbkkkldaaMf
import Derived.Deep.CutBlock
namespace Go.Proofs.Ytlbhfjbbkkkldaa
open Go.RowKit
set_option linter.unusedVariables false

/-- Two numbers that have just been laid. -/
theorem two_in (w : World) (t : TypeId) : ∀ i, i < 2 → ∃ y : Int, (12 ≤ y ∧ y ≤ 13) ∧ (w.alloc (Obj.cells #[.int .i64 12, .int .i64 13] t)).cell? ⟨w.heap.size, 0 + i, none⟩ = some (.int .i64 y) := by
  intro i hi
  match i, hi with
  | 0, _ => exact ⟨12, by omega, by simp⟩
  | 1, _ => exact ⟨13, by omega, by simp⟩
/-- A drawn pattern, whatever it is: its rows are read only. -/
def Mb (B : Nat) (w : World) (A : Option Addr) (n : Nat) : Prop := ∃ rows : List (List Int), RdH w B w.heap.size A n rows ∧ n ≤ 13 ∧ ∀ r ∈ rows, r.length ≤ 5
def MbRes (B : Nat) (w : World) (e : Ending) : Prop := ∃ A n c, e = .returned (.agg #[.slice A n c]) ∧ Mb B w A n
theorem Mb.of {B N c : Nat} {w : World} {A : Option Addr} {rows : List (List Int)} (h : Grid w B w.heap.size (.slice A N c) rows) (hN : N ≤ 13) (hr : ∀ r ∈ rows, r.length ≤ 4) : Mb B w A N :=
  ⟨rows, h.rdH, hN, fun r h => by have := hr r h; omega⟩
theorem mem_set_len {rows : List (List Int)} {i m : Nat} {row : List Int} (h : ∀ r ∈ rows, r.length ≤ m) (hr : row.length ≤ m) : ∀ r ∈ rows.set i row, r.length ≤ m := by
  intro r hr'
  rcases List.mem_or_eq_of_mem_set hr' with h1 | rfl
  · exact h r h1
  · exact hr
theorem Mv.cap {B N c : Nat} {w : World} {A : Option Addr} (h : Mv B N w A c) : N ≤ c := by
  obtain ⟨rows, ⟨vs, h1, h2, _⟩, hl, _⟩ := h
  obtain ⟨A', c', e, _, hc⟩ := own_form2 h2
  injection e with _ e1 e2
  omega
theorem Grid.put1 {w : World} {base M i n c gb L : Nat} {ci : Nat} {Ai : Option Addr} {rows : List (List Int)} {row : List Int} (h : Grid w base M (.slice (some ⟨gb, 0, none⟩) n c) rows) (hi : rows[i]? = some row) (hL : row.length = L) (hc : w.cell? ⟨gb, i, none⟩ = some (.slice Ai L ci)) :
    base ≤ gb ∧ gb < w.heap.size ∧ w.ownsRow base 2 1 (.slice Ai L ci) L (ints row) ∧
      (∀ w' A' row' c', w.grownBy w' (Value.slice Ai L ci).ownBlock → w'.ownsRow base 2 1 (.slice A' row'.length c') row'.length (ints row') → w'.cell? ⟨gb, i, none⟩ = some (.slice Ai L ci) ∧ w'.frozen? ⟨gb, i, none⟩ = false ∧ RdH (w'.setCell ⟨gb, i, none⟩ (.slice A' row'.length c')) base w'.heap.size (some ⟨gb, 0, none⟩) n (rows.set i row')) ∧
      (∀ w' row', row'.length = L → w.grownBy w' (Value.slice Ai L ci).ownBlock → w'.ownsRow base 2 1 (.slice Ai L ci) L (ints row') → RdH w' base w'.heap.size (some ⟨gb, 0, none⟩) n (rows.set i row')) := by
  obtain ⟨b, Ai', ci', e1, e2, e3, e4, e5, e6, e7, e8⟩ := h.put0 hi
  injection e1 with e1
  injection e1 with e1 _ _
  subst e1 hL
  rw [hc] at e5
  injection e5 with e5
  injection e5 with f1 _ f3
  subst f1 f3
  exact ⟨e2, e3, e6, e7, e8⟩
/-- The drawn pattern lies in the box gm, its rows the call's own. -/
def BnG (w0 : World) (g : Nat) (A : Option Addr) (n c : Nat) (xs : List Int) (K gm gb N c4 : Nat) (rows : List (List Int)) (w : World) : Prop :=
  Src w g A n c xs K ∧ w0.grownBy w (some g) ∧ Bx w w0.heap.size 26 #[.slice none 0 0] ∧ Bx w gm 26 #[.slice (some ⟨gb, 0, none⟩) N c4] ∧ Grid w (w0.heap.size + 1) w.heap.size (.slice (some ⟨gb, 0, none⟩) N c4) rows
/-- The drawn pattern lies in the box gm, its rows are read. -/
def BnE (w0 : World) (g : Nat) (A : Option Addr) (n c : Nat) (xs : List Int) (K gm : Nat) (A' : Option Addr) (n' c' : Nat) (w : World) : Prop :=
  Src w g A n c xs K ∧ w0.grownBy w (some g) ∧ Bx w w0.heap.size 26 #[.slice none 0 0] ∧ Bx w gm 26 #[.slice A' n' c'] ∧ Mb (w0.heap.size + 1) w A' n'
section
variable {w0 w w' : World} {g n c K gm gb N c4 : Nat} {A : Option Addr} {xs : List Int} {rows : List (List Int)}
theorem BnG.ask (h : BnG w0 g A n c xs K gm gb N c4 rows w) (hgl : g < w0.heap.size) (hgm : w0.heap.size < gm) {K' : Nat} (hs : Src w' g A n c xs K') (hg : w.grownBy w' (some g)) : BnG w0 g A n c xs K' gm gb N c4 rows w' := by
  obtain ⟨h1, h2, h3, h4, h5⟩ := h
  exact ⟨hs, grown_trans h2 hg, h3.grown hg (by intro e; injection e with e; omega), h4.grown hg (by intro e; injection e with e; omega), (h5.ask h1 hg).size⟩
theorem BnG.below (h : BnG w0 g A n c xs K gm gb N c4 rows w) (hb : Below w.heap.size w w') : BnG w0 g A n c xs K gm gb N c4 rows w' := by
  obtain ⟨h1, h2, h3, h4, h5⟩ := h
  exact ⟨h1.below hb h1.lt, grown_bl h2 hb h2.size, h3.below hb h3.lt, h4.below hb h4.lt, (h5.below hb).size⟩
theorem Mb.up {B : Nat} {w w' : World} {A : Option Addr} {n : Nat} {rows : List (List Int)} {M : Nat} (h : RdH w' B M A n rows) (hM : M ≤ w'.heap.size) (hn : n ≤ 13) (hr : ∀ r ∈ rows, r.length ≤ 5) : Mb B w' A n := ⟨rows, h.more (Nat.le_refl _) hM, hn, hr⟩
theorem BnG.same (h : BnG w0 g A n c xs K gm gb N c4 rows w) (hN : N ≤ 13) (hr : ∀ r ∈ rows, r.length ≤ 5) : BnE w0 g A n c xs K gm (some ⟨gb, 0, none⟩) N c4 w := by
  obtain ⟨h1, h2, h3, h4, h5⟩ := h
  exact ⟨h1, h2, h3, h4, rows, h5.rdH, hN, hr⟩
/-- The first number of a row is stored anew. -/
theorem BnG.set0 {a L gr cr : Nat} {q : Int} {r2 : List Int} (h : BnG w0 g A n c xs K gm gb N c4 rows w) (hgl : g < w0.heap.size) (hN : N ≤ 13) (hr : ∀ r ∈ rows, r.length ≤ 5) (hi : rows[a]? = some (q :: r2)) (hL : (q :: r2).length = L) (hc : w.cell? ⟨gb, a, none⟩ = some (.slice (some ⟨gr, 0, none⟩) L cr)) (z : Int) :
    BnE w0 g A n c xs K gm (some ⟨gb, 0, none⟩) N c4 (w.setCell ⟨gr, 0, none⟩ (.int .i64 z)) := by
  obtain ⟨h1, h2, h3, h4, h5⟩ := h
  obtain ⟨_, _, ho, _, hm⟩ := h5.put1 hi hL hc
  obtain ⟨ho5, hg5⟩ := ho.stored 0 (.int .i64 z)
  have hl := ho.lt gr rfl
  have hb : Below w0.heap.size w (w.setCell ⟨gr, 0, none⟩ (.int .i64 z)) := Below.setCell (Below.refl _ _) (by show w0.heap.size ≤ gr; omega) _
  refine ⟨h1.below hb hgl, grown_bl h2 hb (Nat.le_refl _), ?_, ?_, ?_⟩
  · exact h3.far (by intro e; exact own_bne ho h3 (by decide) (by show some gr = _; rw [e])) _
  · exact h4.far (by intro e; exact own_bne ho h4 (by decide) (by show some gr = _; rw [e])) _
  · rw [ints_setD] at ho5
    have hm2 := hm _ (z :: r2) (by rw [← hL]; rfl) hg5 ho5
    exact Mb.up (w := w) hm2 (Nat.le_refl _) hN (mem_set_len hr (by have := hr _ (List.mem_of_getElem? hi); simpa using this))
/-- A row is stored anew. -/
theorem BnG.row {a L : Nat} {Ai A' : Option Addr} {ci c' : Nat} {row row' : List Int} (h : BnG w0 g A n c xs K gm gb N c4 rows w) (hgl : g < w0.heap.size) (hN : N ≤ 13) (hr : ∀ r ∈ rows, r.length ≤ 5) (hi : rows[a]? = some row) (hL : row.length = L) (hc : w.cell? ⟨gb, a, none⟩ = some (.slice Ai L ci))
    (hr' : row'.length ≤ 5) (hg : w.grownBy w' (Value.slice Ai L ci).ownBlock) (ho' : w'.ownsRow (w0.heap.size + 1) 2 1 (.slice A' row'.length c') row'.length (ints row')) :
    w'.cell? ⟨gm, 0, none⟩ = some (.slice (some ⟨gb, 0, none⟩) N c4) ∧ w'.cell? ⟨gb, a, none⟩ = some (.slice Ai L ci) ∧ w'.frozen? ⟨gb, a, none⟩ = false ∧ BnE w0 g A n c xs K gm (some ⟨gb, 0, none⟩) N c4 (w'.setCell ⟨gb, a, none⟩ (.slice A' row'.length c')) := by
  obtain ⟨h1, h2, h3, h4, h5⟩ := h
  obtain ⟨k1, k2, ho, hp, _⟩ := h5.put1 hi hL hc
  obtain ⟨p1, p2, p3⟩ := hp w' A' row' c' hg ho'
  have hb : Below w0.heap.size w w' := (Below.refl _ _).grown hg h2.size (fun k hk => Nat.le_of_succ_le (ho.lt k hk).1)
  have hb2 : Below w0.heap.size w (w'.setCell ⟨gb, a, none⟩ (.slice A' row'.length c')) := Below.setCell hb (by show w0.heap.size ≤ gb; omega) _
  have hx3 : Bx w' w0.heap.size 26 #[.slice none 0 0] := h3.grown hg (fun e => own_bne ho h3 (by decide) e.symm)
  have hx4 : Bx w' gm 26 #[.slice (some ⟨gb, 0, none⟩) N c4] := h4.grown hg (fun e => own_bne ho h4 (by decide) e.symm)
  obtain ⟨vs, g1, g2, _⟩ := h5
  refine ⟨bx_c0 hx4, p1, p2, h1.below hb2 hgl, grown_bl h2 hb2 (Nat.le_refl _), ?_, ?_, ?_⟩
  · exact hx3.far (by intro e; exact own_bne g2 h3 (by decide) (by show some gb = _; rw [e])) _
  · exact hx4.far (by intro e; exact own_bne g2 h4 (by decide) (by show some gb = _; rw [e])) _
  · exact Mb.up (w := w) p3 (by simp) hN (mem_set_len hr hr')
/-- The pattern is cut. -/
theorem BnG.cut {k c' : Nat} (h : BnG w0 g A n c xs K gm gb N c4 rows w) (hgl : g < w0.heap.size) (hgm : w0.heap.size < gm) (hN : N ≤ 13) (hr : ∀ r ∈ rows, r.length ≤ 5) (hk : k ≤ N) (A' : Option Addr) (hA : A' = some ⟨gb, 0, none⟩ ∨ k = 0) :
    BnE w0 g A n c xs K gm A' k c' (w.setCell ⟨gm, 0, none⟩ (.slice A' k c')) := by
  obtain ⟨h1, h2, h3, h4, h5⟩ := h
  have hb : Below w0.heap.size w (w.setCell ⟨gm, 0, none⟩ (.slice A' k c')) := Below.setCell (Below.refl _ _) (by show w0.heap.size ≤ gm; omega) _
  refine ⟨h1.below hb hgl, grown_bl h2 hb (Nat.le_refl _), h3.far (by show w0.heap.size ≠ gm; omega) _, h4.set_ 0 _, ?_⟩
  have := ((h5.setb h4 (by decide) (by decide) (i := 0) (u := .slice A' k c')).size.rdH).cut hk
  rcases hA with rfl | rfl
  · exact Mb.up (w := w) this (Nat.le_refl _) (by omega) (fun r hr' => hr r (List.mem_of_mem_take hr'))
  · exact ⟨[], ⟨rfl, fun h => absurd h (by omega)⟩, by omega, by simp⟩
theorem BnE.fin {A' : Option Addr} {n' c' : Nat} (h : BnE w0 g A n c xs K gm A' n' c' w) (hgl : g < w0.heap.size) {K' : Nat} (hK : K ≤ K') :
    MbRes w0.heap.size (w.setCell ⟨w0.heap.size, 0, none⟩ (.slice A' n' c')) (.returned (.agg #[.slice A' n' c'])) ∧ Src (w.setCell ⟨w0.heap.size, 0, none⟩ (.slice A' n' c')) g A n c xs K' ∧ w0.grownBy (w.setCell ⟨w0.heap.size, 0, none⟩ (.slice A' n' c')) (some g) := by
  obtain ⟨h1, h2, h3, h4, rows, h5, h6, h7⟩ := h
  have hb : Below w0.heap.size w (w.setCell ⟨w0.heap.size, 0, none⟩ (.slice A' n' c')) := Below.setCell (Below.refl _ _) (by show w0.heap.size ≤ w0.heap.size; exact Nat.le_refl _) _
  exact ⟨⟨A', n', c', rfl, rows, ((h5.setCell (p := ⟨w0.heap.size, 0, none⟩) (.inl (Nat.lt_succ_self _)) _).more (Nat.le_succ _) (by simp)), h6, h7⟩, (h1.below hb hgl).more hK, grown_bl h2 hb (Nat.le_refl _)⟩
end
theorem alloc_drew2 (w : World) (o : Obj) : ((w.drew.alloc o).drew).heap = (w.alloc o).heap := rfl
set_option maxRecDepth 100000 in
set_option maxHeartbeats 8000000 in
theorem l04Bent_src (g : Nat) (A : Option Addr) (n c K : Nat) (xs : List Int) (w : World) (hK : K ≤ 1000) (h : Src w g A n c xs K) :
    Calls Try.prog 71 #[.pointer (some ⟨g, 0, none⟩)] w fun e w' => MbRes w.heap.size w' e ∧ Src w' g A n c xs (K + 400) ∧ w.grownBy w' (some g) := by
  have hgl := h.lt
  have hB0 : Below w.heap.size w (w.alloc (Obj.cells #[.slice none 0 0] 26)) := (by repeat' (first | exact Below.refl _ _ | (with_reducible assumption) | (with_reducible refine Below.alloc ?_ ?_ _) | (with_reducible refine Below.setCell ?_ ?_ _) | (with_reducible refine Below.drew ?_) | (with_reducible refine below_drewN ?_ _) | (refine Below.trans ?_ (Below.mono (by assumption) ?_)) | (with_reducible exact Nat.le_refl _) | (with_reducible assumption) | (exact Below.size (by assumption)) | omega | go_size | (simp at *; omega)))
  have hs0 := h.below hB0 hgl
  have hX := Bx.new w 26 #[.slice none 0 0]
  have hg0 : w.grownBy (w.alloc (Obj.cells #[.slice none 0 0] 26)) (some g) := grown_bl (World.grownBy.refl w (some g)) hB0 (Nat.le_refl _)
  have HS0 := hid hs0
  have HG0 := hid hg0
  clear h hs0 hg0 hB0
  go_enter Try.func71, Try.ntmps71
  go_wp2_with fail
  refine (pick_src g A n c K xs 6 _ (by omega) (by omega) HS0.out).mono ?_
  rintro e w1 ⟨⟨x, x0, x1, rfl⟩, hs1, hg1⟩
  have hgg1 := grown_trans HG0.out hg1
  have X1 := hid (hX.grown hg1 (by intro e; injection e with e; omega))
  have hz1 := hgg1.size
  obtain ⟨x, rfl⟩ := Int.eq_ofNat_of_zero_le x0
  obtain ⟨N, hN⟩ : ∃ N : Nat, 1 + (x : Int) = (N : Int) := ⟨(1 + (x : Int)).toNat, by omega⟩
  have hN1 : 1 ≤ N := by omega
  have hN2 : N ≤ 13 := by omega
  clear HS0 HG0 hg1 hX
  go_wp2_with fail
  clear hN x0 x1
  refine (one_src g A n c (K + 2) xs 16 _ (by omega) (by omega) hs1).mono ?_
  rintro e w2 ⟨⟨b, rfl⟩, hs2, hg2⟩
  have hgg2 := grown_trans hgg1 hg2
  have X2 := hid (X1.out.grown hg2 (by intro e; injection e with e; omega))
  have hz2 := hgg2.size
  have HS2 := hid hs2
  have HG2 := hid hgg2
  clear X1 hs1 hgg1 hg2 hs2 hgg2
  obtain ⟨we, rfl⟩ : ∃ we : World, we = w2 := ⟨_, rfl⟩
  go_upto_if 10 with fail
  go_cut [3] (fun s wx => Hid (∃ (N : Nat) (K2 : Nat), s = .int .i64 (N : Int) ∧ 1 ≤ N ∧ N ≤ 13 ∧ K2 ≤ K + 6 ∧ Src wx g A n c xs K2 ∧ w.grownBy wx (some g) ∧ Bx wx w.heap.size 26 #[.slice none 0 0]))
  case first =>
    cases b
    · go_wp2_with fail
      go_meet
      exact hid ⟨N, K + 2 + 2, rfl, hN1, hN2, by omega, HS2.out, HG2.out, X2.out⟩
    · have hB3 : Below we.heap.size we (we.alloc (Obj.cells #[.int .i64 12, .int .i64 13] 2)) := (by repeat' (first | exact Below.refl _ _ | (with_reducible assumption) | (with_reducible refine Below.alloc ?_ ?_ _) | (with_reducible refine Below.setCell ?_ ?_ _) | (with_reducible refine Below.drew ?_) | (with_reducible refine below_drewN ?_ _) | (refine Below.trans ?_ (Below.mono (by assumption) ?_)) | (with_reducible exact Nat.le_refl _) | (with_reducible assumption) | (exact Below.size (by assumption)) | omega | go_size | (simp at *; omega)))
      have hs3 := hid (HS2.out.below hB3 (by omega))
      have hg3 := hid (grown_bl HG2.out hB3 hz2)
      have X3 := hid (X2.out.below hB3 X2.out.lt)
      have HC := hid (fun hs => among_in (fun y => 12 ≤ y ∧ y ≤ 13) g A n c (K + 2 + 2) xs we.heap.size 0 2 2 (we.alloc (Obj.cells #[.int .i64 12, .int .i64 13] 2)) (by omega) (by omega) (by simp) (by omega) (by omega) (two_in we _) hs)
      clear hB3 HS2 HG2 X2
      go_wp2_with fail
      refine (HC.out hs3.out).mono ?_
      rintro e w4 ⟨⟨y, ⟨y0, y1⟩, rfl⟩, hs4, hg4⟩
      obtain ⟨y, rfl⟩ := Int.eq_ofNat_of_zero_le (show 0 ≤ y by omega)
      have HG4 := hid (grown_trans hg3.out hg4)
      have X4 := hid (X3.out.grown hg4 (by intro e; injection e with e; omega))
      have HS4 := hid hs4
      have hy1 : 1 ≤ y := by omega
      have hy2 : y ≤ 13 := by omega
      clear HC hs3 hg3 X3 hs4 hg4
      go_wp2_with fail
      go_meet
      exact hid ⟨y, K + 2 + 2 + 2, rfl, hy1, hy2, by omega, HS4.out, HG4.out, X4.out⟩
  case rest =>
    clear HS2 HG2 X2 hN1 hN2
    obtain ⟨N, K2, rfl, hN1, hN2, hK2, hs, hgr, hX⟩ := hcut.out
    clear hcut
    have HX := hid hX
    have HG := hid hgr
    have hzc := hX.lt
    clear hX hgr
    go_wp2_with fail
    refine (l04Draw_src g A n c K2 xs N _ (by omega) hN1 hN2 hs).mono ?_
    rintro e w4 ⟨⟨A4, c4, rfl, hM4⟩, hs4, hg4⟩
    have hcap := hM4.cap
    obtain ⟨rows, hG4, hrl, hrb⟩ := hM4
    have hgg4 := grown_trans HG.out hg4
    have X4 := HX.out.grown hg4 (by intro e; injection e with e; omega)
    have hz4 := hgg4.size
    replace hG4 := Grid.more hG4 hzc
    clear hs hg4 HX HG
    obtain ⟨W, hW⟩ : ∃ W, w4.alloc (Obj.cells #[.slice A4 N c4] 26) = W := ⟨_, rfl⟩
    have hbW : Below w4.heap.size w4 W := by rw [← hW]; exact (by repeat' (first | exact Below.refl _ _ | (with_reducible assumption) | (with_reducible refine Below.alloc ?_ ?_ _) | (with_reducible refine Below.setCell ?_ ?_ _) | (with_reducible refine Below.drew ?_) | (with_reducible refine below_drewN ?_ _) | (refine Below.trans ?_ (Below.mono (by assumption) ?_)) | (with_reducible exact Nat.le_refl _) | (with_reducible assumption) | (exact Below.size (by assumption)) | omega | go_size | (simp at *; omega)))
    have hZ : Hid (Src W g A n c xs (K2 + 300) ∧ w.grownBy W (some g) ∧ Bx W w.heap.size 26 #[.slice none 0 0] ∧ Bx W w4.heap.size 26 #[.slice A4 N c4] ∧ Grid W (w.heap.size + 1) W.heap.size (.slice A4 N c4) rows) :=
      ⟨hs4.below hbW (by omega), grown_bl hgg4 hbW hz4, X4.below hbW X4.lt, by rw [← hW]; exact Bx.new _ _ _, (hG4.below hbW).size⟩
    rw [← hW] at hZ
    obtain ⟨s5, g5, x5, y5, m5⟩ := hZ.out
    have hx4 := X4.lt
    have HRL := hid hrl
    have HRB := hid hrb
    have HY5 := hid y5.lt
    clear hW hbW hZ W hs4 hgg4 X4 hG4 hrl hrb
    go_wp2_with fail
    refine (pick_src g A n c (K2 + 300) xs (N : Int) _ (by omega) (by omega) s5).mono ?_
    rintro e w6 ⟨⟨a, a0, a1, rfl⟩, hs6, hg6⟩
    obtain ⟨a, rfl⟩ := Int.eq_ofNat_of_zero_le a0
    have ha : a < N := by omega
    have hgg6 := grown_trans g5 hg6
    have X6 := x5.grown hg6 (by intro e; injection e with e; omega)
    have Y6 := y5.grown hg6 (by intro e; injection e with e; omega)
    have M6 := (m5.ask s5 hg6).size
    clear s5 g5 x5 y5 m5 hg6 a1
    go_wp2_with fail
    refine (pick_src g A n c (K2 + 300 + 2) xs 20 _ (by omega) (by omega) hs6).mono ?_
    rintro e w7 ⟨⟨y, y0, y1, rfl⟩, hs7, hg7⟩
    have hgg7 := grown_trans hgg6 hg7
    have X7 := X6.grown hg7 (by intro e; injection e with e; omega)
    have Y7 := Y6.grown hg7 (by intro e; injection e with e; omega)
    have M7 := (M6.ask hs6 hg7).size
    have hx7 := hgg7.size
    have hy7 := Y7.lt
    clear hs6 hgg6 X6 Y6 M6 hg7
    obtain ⟨row, hrow⟩ : ∃ row, rows[a]? = some row := ⟨_, List.getElem?_eq_getElem (by have := HRL.out; omega)⟩
    have hrow2 := HRB.out row (List.mem_of_getElem? hrow)
    obtain ⟨gb, Ai, ci, rfl, hgb, hgbl, hNl, hcell, hown, hput, hmark⟩ := M7.put0 hrow
    clear hput hmark
    obtain ⟨gr, cr, e, hgr, hgrl⟩ := own_block hown (by omega)
    injection e with e1 _ e2
    subst e1 e2
    obtain ⟨q, r2, rfl⟩ : ∃ q r2, row = q :: r2 := by
      cases row with
      | nil => simp at hrow2
      | cons q r2 => exact ⟨q, r2, rfl⟩
    have hqb := hrow2.2 q (by simp)
    obtain ⟨q0, q1⟩ := hqb
    obtain ⟨L, hL⟩ : ∃ L, (q :: r2).length = L := ⟨_, rfl⟩
    rw [hL] at hcell hown hrow2
    have hL1 := hrow2.1
    obtain ⟨hL1, hL2⟩ := hL1
    have HLL := hid hL
    have hL0 : 0 < L := by omega
    have HROW := hid hrow
    have HRB5 : Hid (∀ r ∈ rows, r.length ≤ 5) := fun r hr => by have := (HRB.out r hr).1; omega
    have hg4 : w.heap.size < w4.heap.size := hx4
    have HB : Hid (BnG w g A n c xs (K2 + 300 + 2 + 2) w4.heap.size gb N c4 rows w7) := ⟨hs7, hgg7, X7, Y7, M7⟩
    have hq7 : w7.cell? ⟨gr, 0, none⟩ = some (.int .i64 q) := by
      rw [hown.cellAt 0 (by omega)]
      rfl
    have hfq := hown.frozenAt 0
    have hbx := bx_c0 Y7
    have hfx := Y7.frozen 0
    have hfr := X7.frozen 0
    have hfb : w7.frozen? ⟨gb, a, none⟩ = false := by
      obtain ⟨vs, v1, v2, _⟩ := M7
      rw [← hNl] at v2
      exact v2.frozenAt a
    have HOWN := hid hown
    clear hs7 hgg7 X7 Y7 M7 hown hNl hL HRL hrow hrow2 HRB a0 hx4
    have ha1 : (a : Int) < (N : Int) := by omega
    have hxr := bx_c0 (show Bx w7 w.heap.size 26 #[.slice none 0 0] from HB.out.2.2.1)
    go_upto_block 0 with fail
    go_cut [] (fun wx => Hid (∃ (A' : Option Addr) (n' c' K5 : Nat), K5 ≤ K + 400 ∧ BnE w g A n c xs K5 w4.heap.size A' n' c' wx))
    case first =>
      by_cases c0 : y = 0
      · subst c0
        have HAM := hid (fun (w' : World) (h1 : w'.heap = (w7.alloc (Obj.cells #[.int .i64 (-1), .int .i64 0, .int .i64 15, .int .i64 16] 2)).heap) (b1 : Below w7.heap.size w7 w') => (among_in (fun _ => True) g A n c (K2 + 300 + 2 + 2) xs w7.heap.size 0 4 4 w' (by omega) (by omega) (by rw [h1]; simp) (by omega) (by omega) (four_in w7 w' _ _ rfl h1) (HB.out.1.below b1 (by omega))).mono (fun e w'' h => show ∃ z : Int, e = .returned (.int .i64 z) ∧ w''.cell? ⟨w4.heap.size, 0, none⟩ = some (.slice (some ⟨gb, 0, none⟩) N c4) ∧ w''.cell? ⟨gb, a, none⟩ = some (.slice (some ⟨gr, 0, none⟩) L ci) ∧ w''.cell? ⟨gr, 0, none⟩ = some (.int .i64 q) ∧ w''.frozen? ⟨gr, 0, none⟩ = false ∧ Hid (BnE w g A n c xs (K2 + 300 + 2 + 2 + 2) w4.heap.size (some ⟨gb, 0, none⟩) N c4 (w''.setCell ⟨gr, 0, none⟩ (.int .i64 z))) ∧ w7.heap.size ≤ w''.heap.size from by
          obtain ⟨⟨z, _, rfl⟩, k2, k3⟩ := h
          have n2 := (HB.out.below b1).ask hgl hg4 k2 k3
          have cc : w''.cell? ⟨gb, a, none⟩ = some (.slice (some ⟨gr, 0, none⟩) L ci) := by
            have hne : gb ≠ g := by omega
            have hlt : gb < w'.heap.size := by have := b1.size; omega
            rw [World.cell?_of_block (k3.block gb hlt (by simp; exact hne)), b1.cell (p := ⟨gb, a, none⟩) hgbl]
            exact hcell
          obtain ⟨m1, m2, mo, _⟩ := n2.2.2.2.2.put1 HROW.out HLL.out cc
          exact ⟨z, rfl, bx_c0 n2.2.2.2.1, cc, by rw [mo.cellAt 0 (by omega)]; rfl, mo.frozenAt 0, n2.set0 hgl hN2 HRB5.out HROW.out HLL.out cc z, Nat.le_trans b1.size k3.size⟩))
        clear HB HOWN
        go_wp2
        go_region_law (go_simp; go_wp2_with (go_at_call 120; with_reducible refine (HAM.out _ ?_ ?_).mono ?_; (first | rfl | exact drew_alloc _ _ | exact alloc_drew _ _ | exact alloc_drew2 _ _); (repeat' (first | (with_reducible exact Below.refl _ _) | (with_reducible refine Below.alloc ?_ ?_ _) | (with_reducible refine Below.drew ?_) | (with_reducible refine below_drewN ?_ _) | exact Nat.le_refl _)); rintro e w8 ⟨z, rfl, k1, k2, k3, k4, k5, k6⟩))
        all_goals
          clear HAM k1 k2 k3 k4
          go_wp2_with fail
          go_meet
          exact hid ⟨_, _, _, _, by omega, k5.out⟩
      · by_cases c1 : y = 1
        · subst c1
          have HPK := hid (fun (w' : World) (b1 : Below w7.heap.size w7 w') => (pick_src g A n c (K2 + 300 + 2 + 2) xs 4 w' (by omega) (by omega) (HB.out.1.below b1 (by omega))).mono (fun e w'' h => show ∃ z : Int, e = .returned (.int .i64 z) ∧ w''.cell? ⟨w4.heap.size, 0, none⟩ = some (.slice (some ⟨gb, 0, none⟩) N c4) ∧ w''.cell? ⟨gb, a, none⟩ = some (.slice (some ⟨gr, 0, none⟩) L ci) ∧ w''.ownsRow (w.heap.size + 1) 2 1 (.slice (some ⟨gr, 0, none⟩) L ci) L (ints (q :: r2)) ∧ Hid (BnG w g A n c xs (K2 + 300 + 2 + 2 + 2) w4.heap.size gb N c4 rows w'') ∧ w7.heap.size ≤ w''.heap.size from by
            obtain ⟨⟨z, _, _, rfl⟩, k2, k3⟩ := h
            have n2 := (HB.out.below b1).ask hgl hg4 k2 k3
            have cc : w''.cell? ⟨gb, a, none⟩ = some (.slice (some ⟨gr, 0, none⟩) L ci) := by
              have hne : gb ≠ g := by omega
              have hlt : gb < w'.heap.size := by have := b1.size; omega
              rw [World.cell?_of_block (k3.block gb hlt (by simp; exact hne)), b1.cell (p := ⟨gb, a, none⟩) hgbl]
              exact hcell
            obtain ⟨m1, m2, mo, _⟩ := n2.2.2.2.2.put1 HROW.out HLL.out cc
            exact ⟨z, rfl, bx_c0 n2.2.2.2.1, cc, mo, n2, Nat.le_trans b1.size k3.size⟩))
          have HAP := hid (fun (w9 w10 : World) (z : Int) (v' : Value) (hB : BnG w g A n c xs (K2 + 300 + 2 + 2 + 2) w4.heap.size gb N c4 rows w9) (cc : w9.cell? ⟨gb, a, none⟩ = some (.slice (some ⟨gr, 0, none⟩) L ci)) (hg : w9.grownBy w10 (Value.slice (some ⟨gr, 0, none⟩) L ci).ownBlock) (ho : w10.ownsRow (w.heap.size + 1) 2 1 v' (L + 1) (ints (q :: r2) ++ #[.int .i64 z].toList)) => show ∃ A' c', v' = .slice A' (L + 1) c' ∧ w10.cell? ⟨w4.heap.size, 0, none⟩ = some (.slice (some ⟨gb, 0, none⟩) N c4) ∧ w10.cell? ⟨gb, a, none⟩ = some (.slice (some ⟨gr, 0, none⟩) L ci) ∧ w10.frozen? ⟨gb, a, none⟩ = false ∧ Hid (BnE w g A n c xs (K2 + 300 + 2 + 2 + 2) w4.heap.size (some ⟨gb, 0, none⟩) N c4 (w10.setCell ⟨gb, a, none⟩ (.slice A' (L + 1) c'))) from by
            have hl : (q :: r2 ++ [z]).length = L + 1 := by rw [List.length_append, HLL.out]; rfl
            have ho' : w10.ownsRow (w.heap.size + 1) 2 1 v' (L + 1) (ints (q :: r2 ++ [z])) := by rw [← ints_snoc]; exact ho
            obtain ⟨A', c', rfl⟩ := own_form ho'
            have h5 : (q :: r2 ++ [z]).length ≤ 5 := by omega
            have := hB.row hgl hN2 HRB5.out HROW.out HLL.out cc h5 hg (A' := A') (c' := c') (by rw [hl]; exact ho')
            rw [hl] at this
            exact ⟨A', c', rfl, this.1, this.2.1, this.2.2.1, this.2.2.2⟩)
          have hLb : L ≤ 1099511627775 := by omega
          have HY6 : Hid (w4.heap.size < w7.heap.size) := hy7
          clear HB HOWN
          go_wp2
          go_region_law (first
            | (refine step_push_own (base := w.heap.size + 1) (sz := 1) (e := 2) (n := L) (xs := ints (q :: r2)) (by first | exact k3 | exact k3.alloc _ | exact own_drewA k3 | exact (own_drewA k3).alloc _ | exact own_drewA (k3.alloc _) | exact own_drewA ((own_drewA k3).alloc _)) w8.heap.size #[.int .i64 z] (cell1 (by first | (simp; done) | (rw [World.cell?_drewN]; rw [World.cell?_alloc_at _ _ _ _ (by first | rfl | simp)]; first | done | rfl) | (show (World.alloc _ _).cell? _ = _; rw [World.cell?_alloc_at _ _ _ _ (by first | rfl | simp)]; first | done | rfl))) rfl (by intro u hu; simp at hu; subst hu; rfl) Try.underlying43 inf_int rfl (by omega) rfl _ _ rfl rfl rfl hLb (by omega) (by first | (simp; omega) | (simp [World.drewN]; omega)) (by first | (simp; done) | (simp [World.drewN]; done)) ?_; intro v9 w9 ho9 hb9 hg9; have hgg9 := grown_trans (by first | exact World.grownBy_alloc _ _ _ | exact grown_trans (World.grownBy_alloc _ _ _) (grown_drew _ _) | exact grown_trans (grown_drew _ _) (World.grownBy_alloc _ _ _) | exact grown_trans (grown_trans (grown_drew _ _) (World.grownBy_alloc _ _ _)) (grown_drew _ _)) hg9; obtain ⟨A9, c9, rfl, f1, f2, f3, f4⟩ := HAP.out w8 w9 z v9 k4.out k2 hgg9 ho9; clear hb9 hg9 ho9 hgg9)
            | (go_simp; go_wp2_with (go_at_call 87; with_reducible refine (HPK.out _ ?_).mono ?_; (repeat' (first | (with_reducible exact Below.refl _ _) | (with_reducible refine Below.alloc ?_ ?_ _) | (with_reducible refine Below.drew ?_) | (with_reducible refine below_drewN ?_ _) | exact Nat.le_refl _)); rintro e w8 ⟨z, rfl, k1, k2, k3, k4, k6⟩; have k7 : gb < w8.heap.size := Nat.lt_of_lt_of_le hgbl k6; have k8 : w4.heap.size < w8.heap.size := Nat.lt_of_lt_of_le HY6.out k6)))
          all_goals
            clear HPK HAP f1 f2 f3 k1 k2 k3 k4 k6 k7 k8 HLL HROW HRB5 hq7 hfq hbx hfx hfr hfb hcell
            go_wp2_with fail
            go_meet
            exact hid ⟨_, _, _, _, by omega, f4.out⟩
        · by_cases c2 : y = 2
          · subst c2
            have HE : Hid (BnE w g A n c xs (K2 + 300 + 2 + 2) w4.heap.size (some ⟨gb, 0, none⟩) N c4 (w7.setCell ⟨gb, a, none⟩ (.slice none 0 0))) := (HB.out.row (row' := []) hgl hN2 HRB5.out HROW.out HLL.out hcell (by simp) (World.grownBy.refl w7 _) (World.ownsRow_nil _ _ _ _)).2.2.2
            clear HB HOWN
            go_wp2_with fail
            go_meet
            exact hid ⟨_, _, _, _, by omega, HE.out⟩
          · by_cases c3 : y = 3
            · subst c3
              have HE : Hid (BnE w g A n c xs (K2 + 300 + 2 + 2) w4.heap.size (some ⟨gb, 0, none⟩) a c4 (w7.setCell ⟨w4.heap.size, 0, none⟩ (.slice (some ⟨gb, 0, none⟩) a c4))) := HB.out.cut hgl hg4 hN2 HRB5.out (by omega) _ (.inl rfl)
              have ha2 : (a : Int) ≤ (c4 : Int) := by omega
              clear HB HOWN
              go_wp2_with fail
              go_meet
              exact hid ⟨_, _, _, _, by omega, HE.out⟩
            · by_cases c5 : y = 4
              · subst c5
                have HE : Hid (BnE w g A n c xs (K2 + 300 + 2 + 2) w4.heap.size (some ⟨gb, 0, none⟩) N c4 (w7.setCell ⟨gr, 0, none⟩ (.int .i64 (q + 1)))) := HB.out.set0 hgl hN2 HRB5.out HROW.out HLL.out hcell (q + 1)
                clear HB HOWN
                go_wp2_with fail
                go_meet
                exact hid ⟨_, _, _, _, by omega, HE.out⟩
              · have k0 : (y == 0) = false := by simpa using c0
                have k1 : (y == 1) = false := by simpa using c1
                have k2 : (y == 2) = false := by simpa using c2
                have k3 : (y == 3) = false := by simpa using c3
                have k4 : (y == 4) = false := by simpa using c5
                have HE := hid (HB.out.same hN2 HRB5.out)
                clear HB HOWN
                go_wp2_with fail
                go_meet
                exact hid ⟨_, _, _, _, by omega, HE.out⟩
    case rest =>
      clear HB HOWN HLL HROW HRB5 hq7 hfq hbx hfx hfr hfb hcell hxr
      obtain ⟨A', n', c', K5, hK5, HE⟩ := hcut.out
      clear hcut
      have e1 := bx_c0 HE.2.2.2.1
      have e2 := bx_c0 HE.2.2.1
      have e3 := HE.2.2.1.frozen 0
      have HF := hid (HE.fin hgl (K' := K + 400) hK5)
      clear HE
      go_wp2
      refine bodyPost_ret (v := .agg #[.slice A' n' c']) ?_ rfl ?_
      · simp (maxDischargeDepth := 8) [results, Try.results71, go_sem, *]
      exact HF.out
end Go.Proofs.Ytlbhfjbbkkkldaa
