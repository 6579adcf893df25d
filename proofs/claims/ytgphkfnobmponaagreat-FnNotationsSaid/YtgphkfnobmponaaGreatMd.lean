/- The text: Md. -/
import Derived.Test.YtgphkfnobmponaaGreatMc
import Derived.Test.YtgphkfnobmponaaGreatG10
import Derived.Test.YtgphkfnobmponaaGreatG11
/- Contract of l04Draw. -/
namespace Go.Proofs.YtgphkfnobmponaaGreat
open Go.RowKit
set_option linter.unusedVariables false

theorem Grid.keptb {w w' : World} {base M g : Nat} {v : Value} {rows : List (List Int)} {t : TypeId} {cs : Array Value} (h : Grid w base M v rows) (hx : Bx w g t cs) (n1 : 2 ≠ t) (n2 : 24 ≠ t) (hg : w.grownBy w' (some g)) : Grid w' base M v rows := by
  obtain ⟨vs, h1, h2, h3, h4⟩ := h
  exact ⟨vs, h1, h2.kept hg (.inr (own_bne h2 hx n2)), fun j u row a b => ⟨(h3 j u row a b).1.kept hg (.inr (own_bne (h3 j u row a b).1 hx n1)), (h3 j u row a b).2⟩, h4⟩
theorem Grid.ask {w w' : World} {base M g m c K : Nat} {A : Option Addr} {zs : List Int} {v : Value} {rows : List (List Int)} (h : Grid w base M v rows) (hs : Src w g A m c zs K) (hg : w.grownBy w' (some g)) : Grid w' base M v rows := by
  obtain ⟨_, _, hb, _⟩ := hs
  exact h.keptb hb (by decide) (by decide) hg
theorem Grid.setb {w : World} {base M g i : Nat} {v u : Value} {rows : List (List Int)} {t : TypeId} {cs : Array Value} (h : Grid w base M v rows) (hx : Bx w g t cs) (n1 : 2 ≠ t) (n2 : 24 ≠ t) : Grid (w.setCell ⟨g, i, none⟩ u) base M v rows :=
  h.keptb hx n1 n2 (grown_set w g i u)
/-- A drawn pattern of N beats. -/
def Mv (B N : Nat) (w : World) (A : Option Addr) (c : Nat) : Prop := ∃ rows : List (List Int), Grid w B w.heap.size (.slice A N c) rows ∧ rows.length = N ∧ ∀ r ∈ rows, (1 ≤ r.length ∧ r.length ≤ 4) ∧ ∀ x ∈ r, 0 ≤ x ∧ x ≤ 15
def MvRow (B N : Nat) (w : World) (e : Ending) : Prop := ∃ A c, e = .returned (.agg #[.slice A N c]) ∧ Mv B N w A c
theorem Mv.sing {B N : Nat} {w : World} {A : Option Addr} {c : Nat} {p : List Int} (h : Grid w B w.heap.size (.slice A N c) (rSing p)) (hp : p.length = N) (hb : ∀ x ∈ p, 0 ≤ x ∧ x ≤ 15) : Mv B N w A c :=
  ⟨_, h, by rw [rSing_len, hp], fun r hr => by
    obtain ⟨x, hx, rfl⟩ := List.mem_map.1 hr
    exact ⟨by simp, fun y hy => by rw [List.mem_singleton.1 hy]; exact hb x hx⟩⟩
theorem Mv.ok {B N : Nat} {w : World} {A : Option Addr} {c : Nat} {q : List (List Int)} (h : Grid w B w.heap.size (.slice A N c) q) (hp : q.length = N) (hq : mOk q = true) : Mv B N w A c :=
  ⟨_, h, hp, fun r hr => ⟨(mstOk_iff.1 ((msSh_iff.1 (mOk_iff.1 hq).1).2 r hr)).1, fun x hx => mstOk_bd ((msSh_iff.1 (mOk_iff.1 hq).1).2 r hr) hx⟩⟩
theorem rAdd_ok {a b q : List (List Int)} (h : rAddMulti a b = (q, 0)) : mOk q = true ∧ q.length = a.length := by
  unfold rAddMulti at h
  split at h
  · injection h with _ h; cases h
  · split at h
    · injection h with _ h; cases h
    · split at h
      · injection h with h _
        subst h
        rename_i h1 h2 h3 h4
        exact ⟨h3, addR_len (Classical.byContradiction h2)⟩
      · injection h with _ h; cases h
theorem bx_c0 {w : World} {g : Nat} {t : TypeId} {v : Value} (h : Bx w g t #[v]) : w.cell? ⟨g, 0, none⟩ = some v := h.cell 0
theorem Src.setq {w : World} {g : Nat} {A : Option Addr} {n c : Nat} {xs : List Int} {K : Nat} (h : Src w g A n c xs K) {p : Addr} (hp : g ≠ p.block) (u : Value) (hq : g < p.block) : Src (w.setCell p u) g A n c xs K := by
  obtain ⟨a, s, h1, h2, h3, h4, h5, h6, h7, h8⟩ := h
  exact ⟨a, s, h1.far hp u, h2, h3, h4, h5, h6, h7.keep fun q hq' => (Below.setCell (Below.refl p.block w) (Nat.le_refl _) u).cell (by omega), h8⟩
theorem l04Single_N (A : Option Addr) (N c : Nat) (p : List Int) (w : World) (hn : N ≤ 13) (hp : p.length = N) (hr : Rd w w.heap.size 1 A N (ints p)) :
    Calls Tryz.prog 124 #[.slice A N c] w fun e w' => ∃ A' c', e = .returned (.agg #[.slice A' N c']) ∧ Grid w' w.heap.size w'.heap.size (.slice A' N c') (rSing p) ∧ Below w.heap.size w w' :=
  (l04Single_any A N c p w (by omega) hr).mono fun e w' h => by
    obtain ⟨⟨A', c', h1, h2⟩, h3⟩ := h
    rw [rSing_len, hp] at h1 h2
    exact ⟨A', c', h1, h2, h3⟩
theorem specAdd_N (A : Option Addr) (N c : Nat) (a : List (List Int)) (B : Option Addr) (d : Nat) (p : List Int) (w : World) (hn : N ≤ 13) (haN : a.length = N) (hla : ∀ r ∈ a, 1 ≤ r.length ∧ r.length ≤ 4) (ha : RdG w w.heap.size A N a) (hb : RdG w w.heap.size B N (rSing p)) :
    Calls Tryz.prog 126 #[.agg #[.slice A N c], .agg #[.slice B N d]] w fun e w' => ∃ A' L c' q x, e = .returned (.tuple #[.agg #[.slice A' L c'], .int .i64 x]) ∧ Hid (Grid w' w.heap.size w'.heap.size (.slice A' L c') q) ∧ Hid (x = 0 → L = N ∧ q.length = N ∧ mOk q = true) ∧ Below w.heap.size w w' :=
  (specAddMulti_any A N c a B N d (rSing p) w (by omega) (by omega) (fun r hr => by have := hla r hr; omega) (fun r hr => by
    obtain ⟨x, _, rfl⟩ := List.mem_map.1 hr
    simp) ha hb).mono fun e w' h => by
    obtain ⟨⟨A', c', h1, h2⟩, h3⟩ := h
    refine ⟨A', _, c', _, _, h1, hid h2, hid fun hx => ?_, h3⟩
    have hk : rAddMulti a (rSing p) = ((rAddMulti a (rSing p)).1, 0) := by rw [← hx]
    have := rAdd_ok hk
    exact ⟨by rw [this.2, haN], by rw [this.2, haN], this.1⟩
set_option maxRecDepth 100000 in
set_option maxHeartbeats 2000000 in
theorem l04Draw_src (g : Nat) (A : Option Addr) (n c K : Nat) (xs : List Int) (N : Nat) (w : World) (hK : K ≤ 90000) (hN1 : 1 ≤ N) (hN2 : N ≤ 13) (h : Src w g A n c xs K) :
    Calls Tryz.prog 93 #[.pointer (some ⟨g, 0, none⟩), .int .i64 (N : Int)] w fun e w' => MvRow w.heap.size N w' e ∧ Src w' g A n c xs (K + 300) ∧ w.grownBy w' (some g) := by
  have hgl := h.lt
  have hX := Bx.new w 27 #[.slice none 0 0]
  have hB0 : Below w.heap.size w (w.alloc (Obj.cells #[.slice none 0 0] 27)) := (by repeat' (first | exact Below.refl _ _ | (with_reducible first | assumption | exact Nat.le_refl _ | refine Below.alloc ?_ ?_ _ | refine Below.setCell ?_ ?_ _ | refine Below.drew ?_ | refine below_drewN ?_ _) | refine Below.trans ?_ (Below.mono (by assumption) ?_) | exact Below.size (by assumption) | omega | go_size | (simp at *; omega)))
  have hs0 := h.below hB0 hgl
  have hg0 : w.grownBy (w.alloc (Obj.cells #[.slice none 0 0] 27)) (some g) := grown_bl (World.grownBy.refl w (some g)) hB0 (Nat.le_refl _)
  have HS0 := hid hs0
  have HG0 := hid hg0
  clear h hs0 hg0 hB0
  go_enter Tryz.func93, Tryz.ntmps93
  go_wp2_with fail
  refine (l04Site_src g A n c K xs N _ (by omega) hN1 hN2 HS0.out).mono ?_
  rintro e w1 ⟨v1, rfl, ⟨L, hL, ho1⟩, hs1, hg1⟩
  obtain ⟨A1, c1, rfl⟩ := own_form ho1
  have hgg1 := grown_trans HG0.out hg1
  have hLn := hL.len
  have hr1 := Rd.of_own ho1
  have HC := hid (l04Single_any A1 L.length c1 L w1 (by omega) hr1)
  have hz1 := hgg1.size
  have X1 := hid ((hX.grown hg1 (by intro e; injection e with e; omega)))
  have HO1 := hid ho1
  have HL := hid hLn
  have HGG := hid hgg1
  have HS1 := hid hs1
  clear hr1 ho1 hLn hgg1 hs1 hg1 hX HS0 HG0
  go_wp2_with fail
  refine HC.out.mono ?_
  rintro e w2 ⟨⟨A2, c2, rfl, hG2⟩, hb2⟩
  have hl2 : (rSing L).length = N := by rw [rSing_len]; exact HL.out
  rw [hl2] at hG2
  have hM2 := Mv.sing hG2 HL.out hL.2.1
  have hs2 := HS1.out.below hb2 (by omega)
  have hgg2 : w.grownBy w2 (some g) := grown_bl HGG.out hb2 hz1
  have X2 := hid (X1.out.below hb2 X1.out.lt)
  have HX2 := hid X2.out.lt
  have hz2 := hgg2.size
  clear HC HO1 HGG HS1 X1 hG2
  obtain ⟨W, hW⟩ : ∃ W, w2.alloc (Obj.cells #[.slice A2 N c2] 27) = W := ⟨_, rfl⟩
  have hbW : Below w2.heap.size w2 W := by rw [← hW]; exact (by repeat' (first | exact Below.refl _ _ | (with_reducible first | assumption | exact Nat.le_refl _ | refine Below.alloc ?_ ?_ _ | refine Below.setCell ?_ ?_ _ | refine Below.drew ?_ | refine below_drewN ?_ _) | refine Below.trans ?_ (Below.mono (by assumption) ?_) | exact Below.size (by assumption) | omega | go_size | (simp at *; omega)))
  have hZ : Hid (Src W g A n c xs (K + 50) ∧ w.grownBy W (some g) ∧ Bx W w.heap.size 27 #[.slice none 0 0] ∧ Bx W w2.heap.size 27 #[.slice A2 N c2] ∧ Mv w.heap.size N W A2 c2) := by
    refine ⟨hs2.below hbW (by omega), grown_bl hgg2 hbW hz2, X2.out.below hbW X2.out.lt, by rw [← hW]; exact Bx.new _ _ _, ?_⟩
    obtain ⟨rows, q1, q2, q3⟩ := hM2
    exact ⟨rows, ((q1.below hbW).more hz1).size, q2, q3⟩
  rw [← hW] at hZ
  obtain ⟨s3, g3, x3, y3, m3⟩ := hZ.out
  clear hW hbW hZ W hs2 hgg2 X2 hM2
  go_wp2_with fail
  refine (pick_src g A n c (K + 50) xs 4 _ (by omega) (by omega) s3).mono ?_
  rintro e w4 ⟨⟨j, j0, j1, rfl⟩, hs4, hg4⟩
  obtain ⟨J, rfl⟩ := Int.eq_ofNat_of_zero_le j0
  have hJ : J ≤ 3 := by omega
  have hgg4 := grown_trans g3 hg4
  have X4 := hid (x3.grown hg4 (by intro e; injection e with e; omega))
  have Y4 := hid (y3.grown hg4 (by intro e; injection e with e; omega))
  have M4 : Hid (Mv w.heap.size N w4 A2 c2) := by
    obtain ⟨rows, q1, q2, q3⟩ := m3
    exact ⟨rows, (q1.ask s3 hg4).size, q2, q3⟩
  clear s3 g3 x3 y3 m3 hg4 j1
  go_wp2
  go_loopw [6] (fun i wr => Hid (∃ (j : Nat) (K2 : Nat) (A3 : Option Addr) (c3 : Nat), i = .int .i64 j ∧ j ≤ 3 ∧ K2 + 60 * j ≤ K + 300 ∧ Src wr g A n c xs K2 ∧ w.grownBy wr (some g) ∧ Bx wr w.heap.size 27 #[.slice none 0 0] ∧ Bx wr w2.heap.size 27 #[.slice A3 N c3] ∧ Mv w.heap.size N wr A3 c3)) (fun i _ => (intOf i).toNat)
  case atStart => exact hid ⟨J, K + 50 + 2, A2, c2, rfl, hJ, by omega, hs4, hgg4, X4.out, Y4.out, M4.out⟩
  case round =>
    clear hs4 hgg4 X4 Y4 M4 hJ j0
    obtain ⟨j, K2, A3, c3, rfl, hj, hK2, hs, hgr, hX, hY, hM⟩ := hrel.out
    clear hrel
    have hzr := hgr.size
    have hzY := hY.lt
    have x0 : wr.cell? ⟨w.heap.size, 0, none⟩ = some (.slice none 0 0) := hX.cell 0
    have fx := hX.frozen 0
    have y0 : wr.cell? ⟨w2.heap.size, 0, none⟩ = some (.slice A3 N c3) := hY.cell 0
    have fy := hY.frozen 0
    by_cases hj0 : 0 < j
    · have hq1 : (0 : Int) < (j : Int) := by omega
      obtain ⟨rows, hG, hrl, hrb⟩ := hM
      have HS := hid hs
      have HGR := hid hgr
      have HX := hid hX
      have HY := hid hY
      have HG := hid hG
      have HRL := hid hrl
      have HRB := hid hrb
      have HSite := hid (fun (w' : World) (b1 : Below wr.heap.size wr w') => (l04Site_src g A n c K2 xs N w' (by omega) hN1 hN2 (hs.below b1 (by omega))).mono (fun e w'' h => show ∃ A7 c7 L7, e = .returned (.slice A7 N c7) ∧ St N L7 ∧ w''.ownsRow wr.heap.size 2 1 (.slice A7 N c7) N (ints L7) ∧ Src w'' g A n c xs (K2 + 50) ∧ wr.grownBy w'' (some g) ∧ w'.grownBy w'' (some g) by
        obtain ⟨v, h1, ⟨L, h2, h3⟩, h4, h5⟩ := h
        obtain ⟨A, c, rfl⟩ := own_form h3
        rw [h2.len] at h1 h3
        exact ⟨A, c, L, h1, h2, own_more h3 b1.size, h4, grown_trans (grown_bl (World.grownBy.refl wr (some g)) b1 (Nat.le_refl _)) h5, h5⟩))
      have HPY := hid (fun (w1 : World) (hg : wr.grownBy w1 (some g)) => show w1.cell? ⟨w2.heap.size, 0, none⟩ = some (.slice A3 N c3) from (hY.grown hg (by intro e; injection e with e; omega)).cell 0)
      have HPG := hid (fun (w1 w6 : World) (hg : wr.grownBy w1 (some g)) (hb : Below w1.heap.size w1 w6) => show RdG w6 w6.heap.size A3 N rows from by
        have h := (((hG.ask hs hg).size).below hb).read
        exact h)
      have HPS := hid (fun (w1 : World) (A5 : Option Addr) (c5 : Nat) (L5 : List Int) (hL : St N L5) (ho : w1.ownsRow wr.heap.size 2 1 (.slice A5 N c5) N (ints L5)) (w' : World) (b1 : Below w1.heap.size w1 w') => l04Single_N A5 N c5 L5 w' hN2 hL.len (((Rd.of_own ho).below b1 (Nat.le_refl _)).more b1.size))
      have HPB := hid (fun (w5 w6 : World) (A6 : Option Addr) (c6 : Nat) (L5 : List Int) (hL : St N L5) (hg : wr.grownBy w5 (some g)) (hb : Below w5.heap.size w5 w6) (hG6 : Grid w6 w5.heap.size w6.heap.size (.slice A6 N c6) (rSing L5)) (w' : World) (b1 : Below w6.heap.size w6 w') => specAdd_N A3 N c3 rows A6 c6 L5 w' hN2 hrl (fun r hr => (hrb r hr).1) (((HPG.out w5 w6 hg hb).below b1 (Nat.le_refl _)).more b1.size) (((Grid.read hG6).below b1 (Nat.le_refl _)).more b1.size))
      have HNE : Hid (some wr.heap.size ≠ some g) := fun e => by injection e with e; omega
      have HFIN := hid (fun (w5 w6 w7 W : World) (h5 : Src w5 g A n c xs (K2 + 50)) (g5 : wr.grownBy w5 (some g)) (b6 : Below w5.heap.size w5 w6) (b7 : Below w6.heap.size w6 w7) (bW : Below wr.heap.size w7 W) => show Src W g A n c xs (K2 + 50) ∧ w.grownBy W (some g) ∧ Bx W w.heap.size 27 #[.slice none 0 0] ∧ Bx W w2.heap.size 27 #[.slice A3 N c3] ∧ Grid W w.heap.size W.heap.size (.slice A3 N c3) rows from by
        have b5W : Below wr.heap.size w5 W := ((b6.mono g5.size).trans (b7.mono (Nat.le_trans g5.size b6.size))).trans bW
        have hgr0 : g < wr.heap.size := by omega
        refine ⟨h5.below b5W hgr0, grown_bl (grown_trans hgr g5) b5W hzr, (hX.grown g5 (by intro e; injection e with e; omega)).below b5W (by omega), (hY.grown g5 (by intro e; injection e with e; omega)).below b5W (by omega), ?_⟩
        exact ((hG.ask hs g5).loM (M := wr.heap.size) (fun k hk => ((Grid.lt hG) k hk).2) b5W (Nat.le_refl _)).size)
      clear hs hgr hX hY hG hrl hrb
      go_wp2
      go_region_law (go_simp; go_wp2_with (first
        | (go_at_call 125; with_reducible refine (HSite.out _ ?_).mono ?_; (exact (by repeat' (first | exact Below.refl _ _ | (with_reducible first | assumption | exact Nat.le_refl _ | refine Below.alloc ?_ ?_ _ | refine Below.setCell ?_ ?_ _ | refine Below.drew ?_ | refine below_drewN ?_ _) | refine Below.trans ?_ (Below.mono (by assumption) ?_) | exact Below.size (by assumption) | omega | go_size | (simp at *; omega)))); rintro e w5 ⟨A5, c5, L5, rfl, hL5, ho5, hs5, hg5, hk5⟩; have y5 := HPY.out w5 hg5; have z5 := hg5.size; have y5a := HPY.out (w5.alloc (Obj.cells #[.slice none 0 0] 27)) (grown_bl hg5 (Below.alloc (Below.refl _ _) (Nat.le_refl _) _) hg5.size); try (have X5 := hid (Bx.grown (show Bx _ wr.heap.size 27 #[.slice none 0 0] by first | exact Bx.new _ _ _ | exact Bx.drew (Bx.new _ _ _)) hk5 HNE.out); have b5 := bx_c0 X5.out; have f5 := X5.out.frozen 0))
        | (go_at_call 124; with_reducible refine (HPS.out w5 A5 c5 L5 hL5 ho5 _ ?_).mono ?_; (exact (by repeat' (first | exact Below.refl _ _ | (with_reducible first | assumption | exact Nat.le_refl _ | refine Below.alloc ?_ ?_ _ | refine Below.setCell ?_ ?_ _ | refine Below.drew ?_ | refine below_drewN ?_ _) | refine Below.trans ?_ (Below.mono (by assumption) ?_) | exact Below.size (by assumption) | omega | go_size | (simp at *; omega)))); rintro e w6 ⟨A6, c6, rfl, hG6, hb6⟩; have hB6 := bchain (show Below w5.heap.size w5 _ by first | exact Below.refl _ _ | exact Below.alloc (Below.refl _ _) (Nat.le_refl _) _) hb6; have hGg6 := grown_bl hg5 hB6 z5; have y6 := HPY.out w6 hGg6; have z6 := hB6.size; have y6a := HPY.out (w6.alloc (Obj.cells #[.slice none 0 0] 27)) (grown_bl hGg6 (Below.alloc (Below.refl _ _) (Nat.le_refl _) _) hGg6.size); replace hG6 := Grid.more hG6 (show w5.heap.size ≤ _ by first | exact Nat.le_refl _ | (simp; done) | (simp; omega)); (first | (have X6 := hid (X5.out.below hB6 X5.out.lt)) | (have X6 := hid (Bx.below (Bx.new w5 27 #[.slice none 0 0]) hb6 (by simp))) | skip); try (have b6 := bx_c0 X6.out; have f6 := X6.out.frozen 0))
        | (go_at_call 126; with_reducible refine (HPB.out w5 w6 A6 c6 L5 hL5 hg5 hB6 hG6 _ ?_).mono ?_; (exact (by repeat' (first | exact Below.refl _ _ | (with_reducible first | assumption | exact Nat.le_refl _ | refine Below.alloc ?_ ?_ _ | refine Below.setCell ?_ ?_ _ | refine Below.drew ?_ | refine below_drewN ?_ _) | refine Below.trans ?_ (Below.mono (by assumption) ?_) | exact Below.size (by assumption) | omega | go_size | (simp at *; omega)))); rintro e w7 ⟨A7, L7, c7, q, x, rfl, hG7, hx7, hb7⟩; have hB7 := bchain (show Below w6.heap.size w6 _ by first | exact Below.refl _ _ | exact Below.alloc (Below.refl _ _) (Nat.le_refl _) _) hb7; have z7 := hB7.size; (first | (have X7 := hid (X6.out.below hB7 X6.out.lt)) | (have X7 := hid (Bx.below (Bx.new w6 27 #[.slice none 0 0]) hb7 (by simp))) | skip); try (have b7 := bx_c0 X7.out; have f7 := X7.out.frozen 0))))
      all_goals
        have bz7 : wr.heap.size ≤ w7.heap.size := by omega
        first
          | (obtain ⟨W, hW⟩ : ∃ W, w7.alloc (Obj.cells #[.slice A7 L7 c7] 27) = W := ⟨_, rfl⟩
             rw [hW]
             have bW : Below wr.heap.size w7 W := by rw [← hW]; exact (Below.refl _ _).alloc bz7 _
             have qW : Hid (Grid W w.heap.size W.heap.size (.slice A7 L7 c7) q) := by rw [← hW]; exact ((hG7.out.below ((Below.refl _ _).alloc (Nat.le_refl _) _)).more (by omega)).size
             have nx : W.cell? ⟨w7.heap.size, 0, none⟩ = some (.slice A7 L7 c7) := by rw [← hW]; simp
             clear hW)
          | (obtain ⟨W, hW⟩ : ∃ W, w7.setCell ⟨w6.heap.size, 0, none⟩ (.slice A7 L7 c7) = W := ⟨_, rfl⟩
             rw [hW]
             have bW : Below wr.heap.size w7 W := by rw [← hW]; exact Below.setCell (Below.refl _ _) (by show wr.heap.size ≤ w6.heap.size; omega) _
             have qW : Hid (Grid W w.heap.size W.heap.size (.slice A7 L7 c7) q) := by rw [← hW]; exact ((hG7.out.setk (p := ⟨w6.heap.size, 0, none⟩) (by simp) _).more (by first | (simp; omega) | omega)).size
             have nx : W.cell? ⟨w6.heap.size, 0, none⟩ = some (.slice A7 L7 c7) := by rw [← hW]; exact ((X7.out.set_ 0 _).cell 0).trans (by simp)
             clear hW)
          | (obtain ⟨W, hW⟩ : ∃ W, w7.setCell ⟨w5.heap.size, 0, none⟩ (.slice A7 L7 c7) = W := ⟨_, rfl⟩
             rw [hW]
             have bW : Below wr.heap.size w7 W := by rw [← hW]; exact Below.setCell (Below.refl _ _) (by show wr.heap.size ≤ w5.heap.size; omega) _
             have qW : Hid (Grid W w.heap.size W.heap.size (.slice A7 L7 c7) q) := by rw [← hW]; exact ((hG7.out.setk (p := ⟨w5.heap.size, 0, none⟩) (by first | exact X6.out.lt | (show w5.heap.size < _; omega)) _).more (by first | (simp; omega) | omega)).size
             have nx : W.cell? ⟨w5.heap.size, 0, none⟩ = some (.slice A7 L7 c7) := by rw [← hW]; exact ((X7.out.set_ 0 _).cell 0).trans (by simp)
             clear hW)
          | (obtain ⟨W, hW⟩ : ∃ W, w7.setCell ⟨wr.heap.size, 0, none⟩ (.slice A7 L7 c7) = W := ⟨_, rfl⟩
             rw [hW]
             have bW : Below wr.heap.size w7 W := by rw [← hW]; exact Below.setCell (Below.refl _ _) (by show wr.heap.size ≤ wr.heap.size; exact Nat.le_refl _) _
             have qW : Hid (Grid W w.heap.size W.heap.size (.slice A7 L7 c7) q) := by rw [← hW]; exact ((hG7.out.setk (p := ⟨wr.heap.size, 0, none⟩) (by first | exact X6.out.lt | (show wr.heap.size < _; omega)) _).more (by first | (simp; omega) | omega)).size
             have nx : W.cell? ⟨wr.heap.size, 0, none⟩ = some (.slice A7 L7 c7) := by rw [← hW]; exact ((X7.out.set_ 0 _).cell 0).trans (by simp)
             clear hW)
        obtain ⟨sW, gW, xW, yW, mW⟩ := HFIN.out w5 w6 w7 W hs5 hg5 hB6 hB7 bW
        have cW := bx_c0 yW
        have fW := yW.frozen 0
        have zW := gW.size
        have hlW := yW.lt
        have HSW := hid sW
        have HGW := hid gW
        have HXW := hid xW
        have HYW := hid yW
        have HMW := hid mW
        clear sW gW xW yW mW hG7 hB7 hb7 hG6 hb6 hB6 hGg6 hs5 hg5 hk5 ho5 y5 y5a y6 y6a bW HS HGR HX HY HG HSite HPY HPG HPS HPB HFIN HNE
        by_cases hx0 : x = 0
        · subst hx0
          obtain ⟨e1, e2, e3⟩ := hx7.out rfl
          replace e1 := e1.symm
          subst e1
          have HQ3 := hid e3
          have HQ2 := hid e2
          clear hx7 e2 e3
          have HZ1 : Hid (Src (W.setCell ⟨w2.heap.size, 0, none⟩ (.slice A7 N c7)) g A n c xs (K2 + 50)) := HSW.out.setq (by show g ≠ w2.heap.size; omega) _ (by show g < w2.heap.size; omega)
          have HZ2 : Hid (w.grownBy (W.setCell ⟨w2.heap.size, 0, none⟩ (.slice A7 N c7)) (some g)) := grown_bl HGW.out (Below.setCell (Below.refl _ _) (Nat.le_refl _) _) (by show w.heap.size ≤ w2.heap.size; omega)
          have HZ3 : Hid (Bx (W.setCell ⟨w2.heap.size, 0, none⟩ (.slice A7 N c7)) w.heap.size 27 #[.slice none 0 0]) := HXW.out.far (by show w.heap.size ≠ w2.heap.size; have := HX2.out; omega) _
          have HZ4 : Hid (Bx (W.setCell ⟨w2.heap.size, 0, none⟩ (.slice A7 N c7)) w2.heap.size 27 #[.slice A7 N c7]) := HYW.out.set_ 0 _
          have HZ5 : Hid (Mv w.heap.size N (W.setCell ⟨w2.heap.size, 0, none⟩ (.slice A7 N c7)) A7 c7) := Mv.ok ((qW.out.setb HYW.out (by decide) (by decide)).size) HQ2.out HQ3.out
          clear HSW HGW HXW HYW HMW qW HQ2 HQ3
          go_wp2
          go_roundw
          case rel => exact hid ⟨j - 1, K2 + 50, A7, c7, by go_num, by omega, by omega, HZ1.out, HZ2.out, HZ3.out, HZ4.out, HZ5.out⟩
          case measure => simp [intOf]; omega
        · have hq2 : (x == 0) = false := by simpa using hx0
          have HZ5 : Hid (Mv w.heap.size N W A3 c3) := ⟨rows, HMW.out, HRL.out, HRB.out⟩
          clear HMW qW hx7
          go_wp2
          go_roundw
          case rel => exact hid ⟨j - 1, K2 + 50, A3, c3, by go_num, by omega, by omega, HSW.out, HGW.out, HXW.out, HYW.out, HZ5.out⟩
          case measure => simp [intOf]; omega
    · have hq1 : ¬ (0 : Int) < (j : Int) := by omega
      have HZ : Hid (Mv w.heap.size N (wr.setCell ⟨w.heap.size, 0, none⟩ (.slice A3 N c3)) A3 c3) := by
        obtain ⟨rows, q1, q2, q3⟩ := hM
        exact ⟨rows, (q1.setb hX (by decide) (by decide)).size, q2, q3⟩
      have hs' := hs
      have HS := hid ((hs.setq (p := ⟨w.heap.size, 0, none⟩) (by show g ≠ w.heap.size; omega) (.slice A3 N c3) hgl).more (show K2 ≤ K + 300 by omega))
      have HGR : Hid (w.grownBy (wr.setCell ⟨w.heap.size, 0, none⟩ (.slice A3 N c3)) (some g)) := grown_bl hgr (Below.setCell (Below.refl _ _) (Nat.le_refl _) _) (Nat.le_refl _)
      clear hM hs hs' hgr hX hY
      go_wp2
      refine bodyPost_ret (v := .agg #[.slice A3 N c3]) ?_ rfl ?_
      · simp (maxDischargeDepth := 8) [results, Tryz.results93, go_sem, *]
      exact ⟨⟨_, _, rfl, HZ.out⟩, HS.out, HGR.out⟩
end Go.Proofs.YtgphkfnobmponaaGreat
