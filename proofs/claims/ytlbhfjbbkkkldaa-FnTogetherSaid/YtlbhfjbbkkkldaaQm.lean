/- Contract of l06Draw. -/
import Derived.Test.YtlbhfjbbkkkldaaQl
import Derived.Test.YtlbhfjbbkkkldaaQj
namespace Go.Proofs.Ytlbhfjbbkkkldaa
open Go.RowKit
set_option linter.unusedVariables false

theorem own_askP {w w' : World} {b n g m c K : Nat} {A : Option Addr} {zs : List Int} {v : Value} {xs : List Value} (h : w.ownsRow b 94 2 v n xs) (hs : Src w g A m c zs K) (hg : w.grownBy w' (some g)) : w'.ownsRow b 94 2 v n xs := by
  obtain ⟨_, _, hb, _⟩ := hs
  exact h.kept hg (.inr (own_bne h hb (by decide)))
/-- A drawn pattern: its rows are the call's own. -/
def PgAt (B N : Nat) (w : World) (gA cA gB cB : Nat) : Prop := ∃ a b : List PT, w.ownsRow B 94 2 (.slice (some ⟨gA, 0, none⟩) N cA) N (ths a) ∧ w.ownsRow B 94 2 (.slice (some ⟨gB, 0, none⟩) N cB) N (ths b)
def PgRow (B : Nat) (w : World) (e : Ending) : Prop := ∃ N gA cA gB cB, 1 ≤ N ∧ N ≤ 5 ∧ e = .returned (.agg #[.slice (some ⟨gA, 0, none⟩) N cA, .slice (some ⟨gB, 0, none⟩) N cB]) ∧ PgAt B N w gA cA gB cB
theorem PgAt.below {B N gA cA gB cB : Nat} {w w' : World} (h : PgAt B N w gA cA gB cB) (hb : Below w.heap.size w w') : PgAt B N w' gA cA gB cB := by
  obtain ⟨a, b, h1, h2⟩ := h
  exact ⟨a, b, own_below h1 hb, own_below h2 hb⟩
theorem PgAt.low {B M N gA cA gB cB : Nat} {w w' : World} (h : PgAt B N w gA cA gB cB) (hb : Below M w w') (hA : gA < M) (hB : gB < M) : PgAt B N w' gA cA gB cB := by
  obtain ⟨a, b, h1, h2⟩ := h
  refine ⟨a, b, own_low h1 hb (fun g hg => ?_), own_low h2 hb (fun g hg => ?_)⟩
  · have e : gA = g := by simpa [Value.ownBlock] using hg
    omega
  · have e : gB = g := by simpa [Value.ownBlock] using hg
    omega
theorem PgAt.ask {B N gA cA gB cB g m c K : Nat} {A : Option Addr} {zs : List Int} {w w' : World} (h : PgAt B N w gA cA gB cB) (hs : Src w g A m c zs K) (hg : w.grownBy w' (some g)) : PgAt B N w' gA cA gB cB := by
  obtain ⟨a, b, h1, h2⟩ := h
  exact ⟨a, b, own_askP h1 hs hg, own_askP h2 hs hg⟩
theorem PgAt.more {B B' N gA cA gB cB : Nat} {w : World} (h : PgAt B N w gA cA gB cB) (hB : B' ≤ B) : PgAt B' N w gA cA gB cB := by
  obtain ⟨a, b, h1, h2⟩ := h
  exact ⟨a, b, own_more h1 hB, own_more h2 hB⟩
theorem PgAt.setq {B N gA cA gB cB : Nat} {w : World} (h : PgAt B N w gA cA gB cB) {p : Addr} (hp : p.block < B) (u : Value) : PgAt B N (w.setCell p u) gA cA gB cB := by
  obtain ⟨a, b, h1, h2⟩ := h
  exact ⟨a, b, own_setq h1 hp u, own_setq h2 hp u⟩
theorem PgAt.setb {B N gA cA gB cB g i : Nat} {w : World} {cs : Array Value} (h : PgAt B N w gA cA gB cB) (hx : Bx w g 35 cs) (u : Value) : PgAt B N (w.setCell ⟨g, i, none⟩ u) gA cA gB cB := by
  obtain ⟨a, b, h1, h2⟩ := h
  exact ⟨a, b, h1.kept (grown_set w g i u) (.inr (own_bne h1 hx (by decide))), h2.kept (grown_set w g i u) (.inr (own_bne h2 hx (by decide)))⟩
theorem PgAt.lt {B N gA cA gB cB : Nat} {w : World} (h : PgAt B N w gA cA gB cB) : (B ≤ gA ∧ gA < w.heap.size) ∧ (B ≤ gB ∧ gB < w.heap.size) := by
  obtain ⟨a, b, h1, h2⟩ := h
  exact ⟨h1.lt gA rfl, h2.lt gB rfl⟩
theorem bx_p0 {w : World} {g : Nat} {t : TypeId} {u v : Value} (h : Bx w g t #[u, v]) : w.cell? ⟨g, 0, none⟩ = some u := h.cell 0
theorem bx_p1 {w : World} {g : Nat} {t : TypeId} {u v : Value} (h : Bx w g t #[u, v]) : w.cell? ⟨g, 1, none⟩ = some v := h.cell 1
theorem Src.setp {w : World} {g : Nat} {A : Option Addr} {n c : Nat} {xs : List Int} {K : Nat} (h : Src w g A n c xs K) {p : Addr} (u : Value) (hq : g < p.block) : Src (w.setCell p u) g A n c xs K := by
  obtain ⟨a, s, h1, h2, h3, h4, h5, h6, h7, h8⟩ := h
  exact ⟨a, s, h1.far (by omega) u, h2, h3, h4, h5, h6, h7.keep fun q hq' => (Below.setCell (Below.refl p.block w) (Nat.le_refl _) u).cell (by omega), h8⟩
set_option maxRecDepth 100000 in
set_option maxHeartbeats 4000000 in
theorem l06Draw_src (g : Nat) (A : Option Addr) (n c K : Nat) (xs : List Int) (w : World) (hK : K ≤ 90000) (h : Src w g A n c xs K) :
    Calls Try.prog 90 #[.pointer (some ⟨g, 0, none⟩)] w fun e w' => PgRow w.heap.size w' e ∧ Src w' g A n c xs (K + 130) ∧ w.grownBy w' (some g) := by
  have hgl := h.lt
  have hX := Bx.new w 35 #[.slice none 0 0, .slice none 0 0]
  have hB0 : Below w.heap.size w (w.alloc (Obj.cells #[.slice none 0 0, .slice none 0 0] 35)) := (by repeat' (first | exact Below.refl _ _ | (with_reducible assumption) | (with_reducible refine Below.alloc ?_ ?_ _) | (with_reducible refine Below.setCell ?_ ?_ _) | (with_reducible refine Below.drew ?_) | (with_reducible refine below_drewN ?_ _) | (refine Below.trans ?_ (Below.mono (by assumption) ?_)) | (with_reducible exact Nat.le_refl _) | (with_reducible assumption) | (exact Below.size (by assumption)) | omega | go_size | (simp at *; omega)))
  have hs0 := h.below hB0 hgl
  have hg0 : w.grownBy (w.alloc (Obj.cells #[.slice none 0 0, .slice none 0 0] 35)) (some g) := grown_bl (World.grownBy.refl w (some g)) hB0 (Nat.le_refl _)
  have HS0 := hid hs0
  have HG0 := hid hg0
  clear h hs0 hg0 hB0
  go_enter Try.func90, Try.ntmps90
  go_wp2_with fail
  refine (pick_src g A n c K xs 5 _ (by omega) (by omega) HS0.out).mono ?_
  rintro e w1 ⟨⟨x, x0, x1, rfl⟩, hs1, hg1⟩
  have hgg1 := grown_trans HG0.out hg1
  have X1 := hid (hX.grown hg1 (by intro e; injection e with e; omega))
  have hz1 := hgg1.size
  obtain ⟨N, hN⟩ : ∃ N : Nat, 1 + x = (N : Int) := ⟨(1 + x).toNat, by omega⟩
  have hN1 : 1 ≤ N := by omega
  have hN2 : N ≤ 5 := by omega
  have HS1 := hid hs1
  have HG1 := hid hgg1
  clear HS0 HG0 hg1 hX hs1 hgg1
  go_wp2_with fail
  clear hN x0 x1
  refine (l04Site_src g A n c (K + 2) xs N _ (by omega) hN1 (by omega) HS1.out).mono ?_
  rintro e w2 ⟨v2, rfl, ⟨L, hL, ho2⟩, hs2, hg2⟩
  obtain ⟨A2, c2, rfl⟩ := own_form ho2
  have hgg2 := grown_trans HG1.out hg2
  have X2 := hid (X1.out.grown hg2 (by intro e; injection e with e; omega))
  have hz2 := hg2.size
  have HO2 := hid ho2
  have HS2 := hid hs2
  have HG2 := hid hgg2
  clear HS1 HG1 X1 hs2 hg2 hgg2 ho2
  go_wp2_with fail
  refine (l04Site_src g A n c (K + 2 + 50) xs N _ (by omega) hN1 (by omega) HS2.out).mono ?_
  rintro e w3 ⟨v3, rfl, ⟨L', hL', ho3⟩, hs3, hg3⟩
  obtain ⟨A3, c3, rfl⟩ := own_form ho3
  have hgg3 := grown_trans HG2.out hg3
  have X3 := hid (X2.out.grown hg3 (by intro e; injection e with e; omega))
  have hz3 := hg3.size
  have ho2 := own_ask HO2.out HS2.out hg3
  have hTG : Hid (rTogetherOf L L' = ((selfs L, selfs L'), 0)) := by
    show _ = _
    rw [rTogetherOf, hL.ok hN1 (by omega), hL'.ok hN1 (by omega)]
    simp only [Bool.and_self, if_true]
    rw [if_pos (by rw [hL.len, hL'.len]), if_pos (by rw [hL.len]; omega)]
  have hC := specTogetherOf_any A2 A3 L.length c2 L'.length c3 L L' w3 (by rw [hL.len]; omega) (by rw [hL'.len]; omega) (Rd.of_own ho2) (Rd.of_own ho3)
  rw [hTG.out] at hC
  have HC := hid hC
  have HLn := hid hL.len
  have HLm := hid hL'.len
  have HS3 := hid hs3
  have HG3 := hid hgg3
  clear HS2 HG2 X2 hs3 hg3 hgg3 ho2 ho3 HO2 hTG hC hL hL'
  go_wp2_with fail
  refine HC.out.mono ?_
  rintro e w4 ⟨⟨A4, c4, B4, d4, hA4, hB4, rfl, ho4, hq4, _⟩, hb4⟩
  simp only [selfs_len, HLn.out, HLm.out] at ho4 hq4 ⊢
  obtain ⟨gA, cA, e1, _, _⟩ := own_block ho4 (by omega)
  obtain ⟨gB, cB, e2, _, _⟩ := own_block hq4 (by omega)
  injection e1 with e1 _ e3
  injection e2 with e2 _ e4
  subst e1 e2 e3 e4
  have hgg4 := grown_bl HG3.out hb4 (by omega)
  have hz4 := hgg4.size
  have hs4 := HS3.out.below hb4 (by omega)
  have X4 := X3.out.below hb4 X3.out.lt
  have M4 : PgAt w.heap.size N w4 gA c4 gB d4 := ⟨_, _, own_more ho4 (by omega), own_more hq4 (by omega)⟩
  have hx4 := X4.lt
  clear HC HS3 HG3 X3 hb4 ho4 hq4 hA4 hB4
  obtain ⟨W, hW⟩ : ∃ W, w4.alloc (Obj.cells #[.slice (some ⟨gA, 0, none⟩) N c4, .slice (some ⟨gB, 0, none⟩) N d4] 35) = W := ⟨_, rfl⟩
  have hbW : Below w4.heap.size w4 W := by rw [← hW]; exact (by repeat' (first | exact Below.refl _ _ | (with_reducible assumption) | (with_reducible refine Below.alloc ?_ ?_ _) | (with_reducible refine Below.setCell ?_ ?_ _) | (with_reducible refine Below.drew ?_) | (with_reducible refine below_drewN ?_ _) | (refine Below.trans ?_ (Below.mono (by assumption) ?_)) | (with_reducible exact Nat.le_refl _) | (with_reducible assumption) | (exact Below.size (by assumption)) | omega | go_size | (simp at *; omega)))
  have hZ : Hid (Src W g A n c xs (K + 2 + 50 + 50) ∧ w.grownBy W (some g) ∧ Bx W w.heap.size 35 #[.slice none 0 0, .slice none 0 0] ∧ Bx W w4.heap.size 35 #[.slice (some ⟨gA, 0, none⟩) N c4, .slice (some ⟨gB, 0, none⟩) N d4] ∧ PgAt w.heap.size N W gA c4 gB d4) :=
    ⟨hs4.below hbW (by omega), grown_bl hgg4 hbW hz4, X4.below hbW X4.lt, by rw [← hW]; exact Bx.new _ _ _, M4.below hbW⟩
  rw [← hW] at hZ
  have HX4 := hid hx4
  clear hW hbW W hs4 hgg4 X4 M4
  obtain ⟨s5, g5, x5, y5, m5⟩ := hZ.out
  clear hZ
  go_wp2_with fail
  refine (pick_src g A n c (K + 2 + 50 + 50) xs 5 _ (by omega) (by omega) s5).mono ?_
  rintro e w6 ⟨⟨j, j0, j1, rfl⟩, hs6, hg6⟩
  obtain ⟨J, rfl⟩ := Int.eq_ofNat_of_zero_le j0
  have hJ : J ≤ 4 := by omega
  have hgg6 := grown_trans g5 hg6
  have X6 := hid (x5.grown hg6 (by intro e; injection e with e; omega))
  have Y6 := hid (y5.grown hg6 (by intro e; injection e with e; omega))
  have M6 := hid (m5.ask s5 hg6)
  clear s5 g5 x5 y5 m5 hg6 j1
  go_wp2
  go_loopw [6] (fun i wr => Hid (∃ (j : Nat) (K2 : Nat) (gA cA gB cB : Nat), i = .int .i64 j ∧ j ≤ 4 ∧ K2 + 2 * j ≤ K + 130 ∧ Src wr g A n c xs K2 ∧ w.grownBy wr (some g) ∧ Bx wr w.heap.size 35 #[.slice none 0 0, .slice none 0 0] ∧ Bx wr w4.heap.size 35 #[.slice (some ⟨gA, 0, none⟩) N cA, .slice (some ⟨gB, 0, none⟩) N cB] ∧ PgAt w.heap.size N wr gA cA gB cB)) (fun i _ => (intOf i).toNat)
  case atStart => exact hid ⟨J, K + 2 + 50 + 50 + 2, gA, c4, gB, d4, rfl, hJ, by omega, hs6, hgg6, X6.out, Y6.out, M6.out⟩
  case round =>
    clear hs6 hgg6 X6 Y6 M6 hJ j0
    obtain ⟨j, K2, gA3, cA3, gB3, cB3, rfl, hj, hK2, hs, hgr, hX, hY, hM⟩ := hrel.out
    clear hrel
    have hzr := hgr.size
    have hzY := hY.lt
    have x0 := bx_p0 hX
    have x1 := bx_p1 hX
    have fx := hX.frozen 0
    have fx1 := hX.frozen 1
    have y0 := bx_p0 hY
    have y1 := bx_p1 hY
    have fy := hY.frozen 0
    have fy1 := hY.frozen 1
    by_cases hj0 : 0 < j
    · have hq1 : (0 : Int) < (j : Int) := by omega
      have HP := hid (fun (w' : World) (b1 : Below wr.heap.size wr w') => (pick_src g A n c K2 xs (N : Int) w' (by omega) (by omega) (hs.below b1 (by omega))).mono (fun e w'' h => show ∃ q : Nat, e = .returned (.int .i64 (q : Int)) ∧ q < N ∧ w''.cell? ⟨w4.heap.size, 0, none⟩ = some (.slice (some ⟨gA3, 0, none⟩) N cA3) ∧ w''.cell? ⟨w4.heap.size, 1, none⟩ = some (.slice (some ⟨gB3, 0, none⟩) N cB3) ∧ Src w'' g A n c xs (K2 + 2) ∧ wr.grownBy w'' (some g) ∧ w'.grownBy w'' (some g) by
        obtain ⟨⟨q, q0, q1, rfl⟩, k2, k3⟩ := h
        obtain ⟨q, rfl⟩ := Int.eq_ofNat_of_zero_le q0
        have hY2 := (hY.below b1 hY.lt).grown k3 (by intro e; injection e with e; omega)
        exact ⟨q, rfl, by omega, bx_p0 hY2, bx_p1 hY2, k2, grown_trans (grown_bl (World.grownBy.refl wr (some g)) b1 (Nat.le_refl _)) k3, k3⟩))
      have HXC := hid (fun (w5 : World) (q : Nat) (hq : q < N) (g5 : wr.grownBy w5 (some g)) (w' : World) (b1 : Below w5.heap.size w5 w') => (show ∀ a b : List PT, wr.ownsRow w.heap.size 94 2 (.slice (some ⟨gA3, 0, none⟩) N cA3) N (ths a) → wr.ownsRow w.heap.size 94 2 (.slice (some ⟨gB3, 0, none⟩) N cB3) N (ths b) → Calls Try.prog 147 #[.agg #[.slice (some ⟨gA3, 0, none⟩) N cA3, .slice (some ⟨gB3, 0, none⟩) N cB3], .int .i64 (q : Int)] w' fun e w'' => ∃ A7 n7 c7 B7 m7 d7 x, e = .returned (.tuple #[.agg #[.slice A7 n7 c7, .slice B7 m7 d7], .int .i64 x]) ∧ Hid (x = 0 → ∃ gA gB, A7 = some ⟨gA, 0, none⟩ ∧ n7 = N ∧ B7 = some ⟨gB, 0, none⟩ ∧ m7 = N ∧ PgAt w'.heap.size N w'' gA c7 gB d7) ∧ Below w'.heap.size w' w'' from fun a b ha hb => (specExchange_any _ _ N cA3 cB3 q (a, b) w' hN1 (by omega) hq (((Rd.of_own (own_askP ha hs g5)).below b1 (Nat.le_refl _)).more b1.size) (((Rd.of_own (own_askP hb hs g5)).below b1 (Nat.le_refl _)).more b1.size)).mono fun e w'' h => by
        obtain ⟨h1 | h1, h2⟩ := h
        · obtain ⟨x, hx, rfl⟩ := h1
          exact ⟨_, _, _, _, _, _, x, rfl, fun h => absurd h hx, h2⟩
        · obtain ⟨gA, cA, gB, cB, a', b', rfl, o1, o2⟩ := h1
          exact ⟨_, _, _, _, _, _, 0, rfl, fun _ => ⟨gA, gB, rfl, rfl, rfl, rfl, a', b', o1, o2⟩, h2⟩))
      have HEX : Hid (∀ (w5 : World) (q : Nat) (hq : q < N) (g5 : wr.grownBy w5 (some g)) (w' : World) (b1 : Below w5.heap.size w5 w'), Calls Try.prog 147 #[.agg #[.slice (some ⟨gA3, 0, none⟩) N cA3, .slice (some ⟨gB3, 0, none⟩) N cB3], .int .i64 (q : Int)] w' fun e w'' => ∃ A7 n7 c7 B7 m7 d7 x, e = .returned (.tuple #[.agg #[.slice A7 n7 c7, .slice B7 m7 d7], .int .i64 x]) ∧ Hid (x = 0 → ∃ gA gB, A7 = some ⟨gA, 0, none⟩ ∧ n7 = N ∧ B7 = some ⟨gB, 0, none⟩ ∧ m7 = N ∧ PgAt w'.heap.size N w'' gA c7 gB d7) ∧ Below w'.heap.size w' w'') := by
        intro w5 q hq g5 w' b1
        obtain ⟨a, b, ha, hb⟩ := hM
        exact HXC.out w5 q hq g5 w' b1 a b ha hb
      have HFIN := hid (fun (w5 w6 W : World) (h5 : Src w5 g A n c xs (K2 + 2)) (g5 : wr.grownBy w5 (some g)) (b6 : Below w5.heap.size w5 w6) (bW : Below wr.heap.size w6 W) => show Src W g A n c xs (K2 + 2) ∧ w.grownBy W (some g) ∧ Bx W w.heap.size 35 #[.slice none 0 0, .slice none 0 0] ∧ Bx W w4.heap.size 35 #[.slice (some ⟨gA3, 0, none⟩) N cA3, .slice (some ⟨gB3, 0, none⟩) N cB3] ∧ PgAt w.heap.size N W gA3 cA3 gB3 cB3 from by
        have b5W : Below wr.heap.size w5 W := (b6.mono g5.size).trans bW
        have hgr0 : g < wr.heap.size := by omega
        have hl := hM.lt
        exact ⟨h5.below b5W hgr0, grown_bl (grown_trans hgr g5) b5W hzr, (hX.grown g5 (by intro e; injection e with e; omega)).below b5W (by omega), (hY.grown g5 (by intro e; injection e with e; omega)).below b5W (by omega), (hM.ask hs g5).low b5W hl.1.2 hl.2.2⟩)
      have HPY := hid (fun (w1 : World) (hg : wr.grownBy w1 (some g)) => show w1.cell? ⟨w4.heap.size, 0, none⟩ = some (.slice (some ⟨gA3, 0, none⟩) N cA3) ∧ w1.cell? ⟨w4.heap.size, 1, none⟩ = some (.slice (some ⟨gB3, 0, none⟩) N cB3) from by
        have := hY.grown hg (by intro e; injection e with e; omega)
        exact ⟨bx_p0 this, bx_p1 this⟩)
      have HNE : Hid (some wr.heap.size ≠ some g) := fun e => by injection e with e; omega
      clear hs hgr hX hY hM HXC
      go_wp2
      go_region_law (go_simp; go_wp2_with (first
        | (go_at_call 87; with_reducible refine (HP.out _ ?_).mono ?_; (exact (by repeat' (first | exact Below.refl _ _ | (with_reducible assumption) | (with_reducible refine Below.alloc ?_ ?_ _) | (with_reducible refine Below.setCell ?_ ?_ _) | (with_reducible refine Below.drew ?_) | (with_reducible refine below_drewN ?_ _) | (refine Below.trans ?_ (Below.mono (by assumption) ?_)) | (with_reducible exact Nat.le_refl _) | (with_reducible assumption) | (exact Below.size (by assumption)) | omega | go_size | (simp at *; omega)))); rintro e w5 ⟨q, rfl, hq, y50, y51, hs5, hg5, hk5⟩; have z5 := hg5.size; obtain ⟨y5a0, y5a1⟩ := HPY.out (w5.alloc (Obj.cells #[.slice none 0 0, .slice none 0 0] 35)) (grown_bl hg5 (Below.alloc (Below.refl _ _) (Nat.le_refl _) _) hg5.size); try (have X5 := hid (Bx.grown (show Bx _ wr.heap.size 35 #[.slice none 0 0, .slice none 0 0] by first | exact Bx.new _ _ _ | exact Bx.drew (Bx.new _ _ _)) hk5 HNE.out); have b50 := bx_p0 X5.out; have b51 := bx_p1 X5.out; have f50 := X5.out.frozen 0; have f51 := X5.out.frozen 1))
        | (go_at_call 147; with_reducible refine (HEX.out w5 q hq hg5 _ ?_).mono ?_; (exact (by repeat' (first | exact Below.refl _ _ | (with_reducible assumption) | (with_reducible refine Below.alloc ?_ ?_ _) | (with_reducible refine Below.setCell ?_ ?_ _) | (with_reducible refine Below.drew ?_) | (with_reducible refine below_drewN ?_ _) | (refine Below.trans ?_ (Below.mono (by assumption) ?_)) | (with_reducible exact Nat.le_refl _) | (with_reducible assumption) | (exact Below.size (by assumption)) | omega | go_size | (simp at *; omega)))); rintro e w6 ⟨A7, n7, c7, B7, m7, d7, x, rfl, hx7, hb6⟩; have hB6 := bchain (show Below w5.heap.size w5 _ by first | exact Below.refl _ _ | exact Below.alloc (Below.refl _ _) (Nat.le_refl _) _) hb6; have hGg6 := grown_bl hg5 hB6 z5; obtain ⟨y60, y61⟩ := HPY.out w6 hGg6; have z6 := hB6.size; obtain ⟨y6a0, y6a1⟩ := HPY.out (w6.alloc (Obj.cells #[.slice none 0 0, .slice none 0 0] 35)) (grown_bl hGg6 (Below.alloc (Below.refl _ _) (Nat.le_refl _) _) hGg6.size); (first | (have X6 := hid (X5.out.below hB6 X5.out.lt)) | (have X6 := hid (Bx.below (Bx.new w5 35 #[.slice none 0 0, .slice none 0 0]) hb6 (by simp))) | skip); try (have b60 := bx_p0 X6.out; have b61 := bx_p1 X6.out; have f60 := X6.out.frozen 0; have f61 := X6.out.frozen 1))))
      all_goals
        have bz6 : wr.heap.size ≤ w6.heap.size := by omega
        first
          | (obtain ⟨W, hW⟩ : ∃ W, w6.alloc (Obj.cells #[.slice A7 n7 c7, .slice B7 m7 d7] 35) = W := ⟨_, rfl⟩
             rw [hW]
             have bW : Below wr.heap.size w6 W := by rw [← hW]; exact (Below.refl _ _).alloc bz6 _
             have qW : Hid (x = 0 → ∃ gA gB, A7 = some ⟨gA, 0, none⟩ ∧ n7 = N ∧ B7 = some ⟨gB, 0, none⟩ ∧ m7 = N ∧ PgAt w.heap.size N W gA c7 gB d7) := by
               rw [← hW]
               refine hid fun h => ?_
               obtain ⟨gA, gB, e1, e2, e3, e4, e5⟩ := hx7.out h
               exact ⟨gA, gB, e1, e2, e3, e4, (e5.below ((Below.refl _ _).alloc (Nat.le_refl _) _)).more (by first | omega | (simp; omega))⟩
             have nX : Bx W w6.heap.size 35 #[.slice A7 n7 c7, .slice B7 m7 d7] := by rw [← hW]; exact Bx.new _ _ _
             have nx0 := bx_p0 nX
             have nx1 := bx_p1 nX
             clear hW nX)
          | (obtain ⟨W, hW⟩ : ∃ W, (w6.setCell ⟨w5.heap.size, 0, none⟩ (.slice A7 n7 c7)).setCell ⟨w5.heap.size, 1, none⟩ (.slice B7 m7 d7) = W := ⟨_, rfl⟩
             rw [hW]
             have bW : Below wr.heap.size w6 W := by rw [← hW]; exact Below.setCell (Below.setCell (Below.refl _ _) (by show wr.heap.size ≤ w5.heap.size; omega) _) (by show wr.heap.size ≤ w5.heap.size; omega) _
             have qW : Hid (x = 0 → ∃ gA gB, A7 = some ⟨gA, 0, none⟩ ∧ n7 = N ∧ B7 = some ⟨gB, 0, none⟩ ∧ m7 = N ∧ PgAt w.heap.size N W gA c7 gB d7) := by
               rw [← hW]
               refine hid fun h => ?_
               obtain ⟨gA, gB, e1, e2, e3, e4, e5⟩ := hx7.out h
               exact ⟨gA, gB, e1, e2, e3, e4, ((e5.setq (p := ⟨w5.heap.size, 0, none⟩) (by first | exact X5.out.lt | (simp; done) | (simp; omega) | (show w5.heap.size < _; omega)) _).setq (p := ⟨w5.heap.size, 1, none⟩) (by first | exact X5.out.lt | (simp; done) | (simp; omega) | (show w5.heap.size < _; omega)) _).more (by first | omega | (simp; omega))⟩
             have nX : Bx W w5.heap.size 35 #[.slice A7 n7 c7, .slice B7 m7 d7] := by rw [← hW]; exact (X6.out.set_ 0 _).set_ 1 _
             have nx0 := bx_p0 nX
             have nx1 := bx_p1 nX
             clear hW nX)
          | (obtain ⟨W, hW⟩ : ∃ W, (w6.setCell ⟨wr.heap.size, 0, none⟩ (.slice A7 n7 c7)).setCell ⟨wr.heap.size, 1, none⟩ (.slice B7 m7 d7) = W := ⟨_, rfl⟩
             rw [hW]
             have bW : Below wr.heap.size w6 W := by rw [← hW]; exact Below.setCell (Below.setCell (Below.refl _ _) (by show wr.heap.size ≤ wr.heap.size; omega) _) (by show wr.heap.size ≤ wr.heap.size; omega) _
             have qW : Hid (x = 0 → ∃ gA gB, A7 = some ⟨gA, 0, none⟩ ∧ n7 = N ∧ B7 = some ⟨gB, 0, none⟩ ∧ m7 = N ∧ PgAt w.heap.size N W gA c7 gB d7) := by
               rw [← hW]
               refine hid fun h => ?_
               obtain ⟨gA, gB, e1, e2, e3, e4, e5⟩ := hx7.out h
               exact ⟨gA, gB, e1, e2, e3, e4, ((e5.setq (p := ⟨wr.heap.size, 0, none⟩) (by first | exact X5.out.lt | (simp; done) | (simp; omega) | (show wr.heap.size < _; omega)) _).setq (p := ⟨wr.heap.size, 1, none⟩) (by first | exact X5.out.lt | (simp; done) | (simp; omega) | (show wr.heap.size < _; omega)) _).more (by first | omega | (simp; omega))⟩
             have nX : Bx W wr.heap.size 35 #[.slice A7 n7 c7, .slice B7 m7 d7] := by rw [← hW]; exact (X6.out.set_ 0 _).set_ 1 _
             have nx0 := bx_p0 nX
             have nx1 := bx_p1 nX
             clear hW nX)
        obtain ⟨sW, gW, xW, yW, mW⟩ := HFIN.out w5 w6 W hs5 hg5 hB6 bW
        have cW0 := bx_p0 yW
        have cW1 := bx_p1 yW
        have fW := yW.frozen 0
        have fW1 := yW.frozen 1
        have zW := gW.size
        have hlW := yW.lt
        have hlX := HX4.out
        have HSW := hid sW
        have HGW := hid gW
        have HXW := hid xW
        have HYW := hid yW
        have HMW := hid mW
        clear sW gW xW yW mW hx7 hb6 hB6 hGg6 hs5 hg5 hk5 y50 y51 y5a0 y5a1 y60 y61 y6a0 y6a1 bW HP HEX HFIN HPY HNE
        by_cases hx0 : x = 0
        · subst hx0
          obtain ⟨gA7, gB7, e1, e2, e3, e4, e5⟩ := qW.out rfl
          replace e2 := e2.symm
          replace e4 := e4.symm
          subst e1 e3
          subst e2
          replace e4 := e4.symm
          subst e4
          have HZ1 := hid ((HSW.out.setp (p := ⟨w4.heap.size, 0, none⟩) (.slice (some ⟨gA7, 0, none⟩) m7 c7) (by show g < w4.heap.size; omega)).setp (p := ⟨w4.heap.size, 1, none⟩) (.slice (some ⟨gB7, 0, none⟩) m7 d7) (by show g < w4.heap.size; omega))
          have HZ2 : Hid (w.grownBy ((W.setCell ⟨w4.heap.size, 0, none⟩ (.slice (some ⟨gA7, 0, none⟩) m7 c7)).setCell ⟨w4.heap.size, 1, none⟩ (.slice (some ⟨gB7, 0, none⟩) m7 d7)) (some g)) := grown_bl HGW.out (Below.setCell (Below.setCell (Below.refl w4.heap.size _) (by show w4.heap.size ≤ w4.heap.size; exact Nat.le_refl _) _) (by show w4.heap.size ≤ w4.heap.size; exact Nat.le_refl _) _) (by show w.heap.size ≤ w4.heap.size; omega)
          have HZ3 := hid ((HXW.out.far (p := ⟨w4.heap.size, 0, none⟩) (by show w.heap.size ≠ w4.heap.size; omega) (.slice (some ⟨gA7, 0, none⟩) m7 c7)).far (p := ⟨w4.heap.size, 1, none⟩) (by show w.heap.size ≠ w4.heap.size; omega) (.slice (some ⟨gB7, 0, none⟩) m7 d7))
          have HZ4 := hid ((HYW.out.set_ 0 (.slice (some ⟨gA7, 0, none⟩) m7 c7)).set_ 1 (.slice (some ⟨gB7, 0, none⟩) m7 d7))
          have HZ5 := hid ((e5.setb HYW.out (i := 0) (.slice (some ⟨gA7, 0, none⟩) m7 c7)).setb (HYW.out.set_ 0 _) (i := 1) (.slice (some ⟨gB7, 0, none⟩) m7 d7))
          clear HSW HGW HXW HYW HMW qW e5
          go_wp2
          go_roundw
          case rel => exact hid ⟨j - 1, K2 + 2, gA7, c7, gB7, d7, by go_num, by omega, by omega, HZ1.out, HZ2.out, HZ3.out, HZ4.out, HZ5.out⟩
          case measure => simp [intOf]; omega
        · have hq2 : (x == 0) = false := by simpa using hx0
          clear qW
          go_wp2
          go_roundw
          case rel => exact hid ⟨j - 1, K2 + 2, gA3, cA3, gB3, cB3, by go_num, by omega, by omega, HSW.out, HGW.out, HXW.out, HYW.out, HMW.out⟩
          case measure => simp [intOf]; omega
    · have hq1 : ¬ (0 : Int) < (j : Int) := by omega
      have HS := hid (((hs.setp (p := ⟨w.heap.size, 0, none⟩) (.slice (some ⟨gA3, 0, none⟩) N cA3) hgl).setp (p := ⟨w.heap.size, 1, none⟩) (.slice (some ⟨gB3, 0, none⟩) N cB3) hgl).more (show K2 ≤ K + 130 by omega))
      have HGR : Hid (w.grownBy ((wr.setCell ⟨w.heap.size, 0, none⟩ (.slice (some ⟨gA3, 0, none⟩) N cA3)).setCell ⟨w.heap.size, 1, none⟩ (.slice (some ⟨gB3, 0, none⟩) N cB3)) (some g)) := grown_bl hgr (Below.setCell (Below.setCell (Below.refl w.heap.size _) (by show w.heap.size ≤ w.heap.size; exact Nat.le_refl _) _) (by show w.heap.size ≤ w.heap.size; exact Nat.le_refl _) _) (Nat.le_refl _)
      have HZ := hid ((hM.setb hX (i := 0) (.slice (some ⟨gA3, 0, none⟩) N cA3)).setb (hX.set_ 0 _) (i := 1) (.slice (some ⟨gB3, 0, none⟩) N cB3))
      clear hM hs hgr hX hY
      go_wp2
      refine bodyPost_ret (v := .agg #[.slice (some ⟨gA3, 0, none⟩) N cA3, .slice (some ⟨gB3, 0, none⟩) N cB3]) ?_ rfl ?_
      · simp (maxDischargeDepth := 8) [results, Try.results90, go_sem, *]
      exact ⟨⟨N, gA3, cA3, gB3, cB3, hN1, hN2, rfl, HZ.out⟩, HS.out, HGR.out⟩
end Go.Proofs.Ytlbhfjbbkkkldaa
