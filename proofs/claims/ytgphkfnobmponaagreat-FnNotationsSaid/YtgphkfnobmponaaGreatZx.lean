/- The text: Zx. -/
import Derived.Test.YtgphkfnobmponaaGreatG47
import Derived.Test.YtgphkfnobmponaaGreatMd
namespace Go.Proofs.YtgphkfnobmponaaGreat
open Go.RowKit
set_option linter.unusedVariables false
theorem tot4_le {q : List (List Int)} (h : ∀ r ∈ q, r.length ≤ 4) : tot q ≤ 4 * q.length := by
  induction q with
  | nil => simp [tot]
  | cons r q ih =>
    have h1 := h r (by simp)
    have h2 := ih fun x hx => h x (by simp [hx])
    show r.length + tot q ≤ _
    rw [List.length_cons]; omega
theorem NdRes.m {B N : Nat} {w : World} {A : Option Addr} {c : Nat} (hN : N ≤ 13) (h : Mv B N w A c) : NdRes B w (.returned (.agg #[.int .i64 2, .slice none 0 0, .slice A N c, .slice none 0 0, .slice none 0 0, .slice none 0 0])) := by
  obtain ⟨q, hG, rfl, hb⟩ := h
  have ht := tot4_le fun r hr => (hb r hr).1.2
  exact ⟨(2, [], q, [], ([], [])), ⟨none, 0, A, c, none, 0, none, 0, none, 0⟩, rfl, ⟨by simp, ⟨by show q.length ≤ 2000000; omega, fun r hr => by have := (hb r hr).1.2; omega, by show tot q ≤ 2000000; omega⟩, by simp, by simp, by simp⟩, .inr (.inl ⟨rfl, hN, hb⟩), ⟨Nat.le_refl _, by simp, by simp⟩, NtDr.m hG⟩
theorem l07From_any (A : Option Addr) (n c B : Nat) (p : List Int) (N : Nat) (w : World) (h1 : 1 ≤ N) (h2 : N ≤ 4) (hl : p.length = n) (hn : n ≤ 1000) (hBw : B ≤ w.heap.size) (ho : w.ownsRow B 2 1 (.slice A n c) n (ints p)) :
    Calls Tryz.prog 97 #[.slice A n c, .int .i64 (N : Int)] w fun e w' => FrRes B w' e ∧ Below w.heap.size w w' := by
  have h : N = 1 ∨ N = 2 ∨ N = 3 ∨ N = 4 := by omega
  rcases h with rfl | rfl | rfl | rfl
  · exact l07From_1 A n c B p w hl hn hBw ho
  · exact l07From_2 A n c B p w hl hn hBw ho
  · exact l07From_3 A n c B p w hl hn hBw ho
  · exact l07From_4 A n c B p w hl hn hBw ho
theorem NtDr.put {B : Nat} {w : World} {x : Note} {s : Six} {p : Addr} (h : NtDr B w x s) (hp : p.block < B) (u : Value) : NtDr B (w.setCell p u) x s := by
  obtain ⟨h1, h2, h3, h4, h5, h6⟩ := h
  exact ⟨own_put0 h1 hp u, (h2.setk hp u).size, own_put0 h3 hp u, own_put0 h4 hp u, own_put0 h5 hp u, h6⟩
theorem NtDr.more {B B' : Nat} {w : World} {x : Note} {s : Six} (h : NtDr B w x s) (hb : B' ≤ B) : NtDr B' w x s := by
  obtain ⟨h1, h2, h3, h4, h5, h6⟩ := h
  exact ⟨own_more h1 hb, h2.more hb, own_more h3 hb, own_more h4 hb, own_more h5 hb, h6⟩
theorem NtDr.below {B : Nat} {w w' : World} {x : Note} {s : Six} (h : NtDr B w x s) (hb : Below w.heap.size w w') : NtDr B w' x s := by
  obtain ⟨h1, h2, h3, h4, h5, h6⟩ := h
  exact ⟨own_below h1 hb, (h2.below hb).size, own_below h3 hb, own_below h4 hb, own_below h5 hb, h6⟩
theorem NtDr.rd {B : Nat} {w : World} {x : Note} {s : Six} (h : NtDr B w x s) : NtRd x s w := by
  obtain ⟨h1, h2, h3, h4, h5, h6⟩ := h
  exact ⟨Rd.of_own h1, h2.read, Rd.of_own h3, Rd.of_own h4, Rd.of_own h5⟩
theorem NdRes.put {B : Nat} {w : World} {e : Ending} {p : Addr} (h : NdRes B w e) (hp : p.block < B) (u : Value) : NdRes B (w.setCell p u) e := by
  obtain ⟨x, s, h1, h2, h3, h4, h5⟩ := h
  exact ⟨x, s, h1, h2, h3, h4, h5.put hp u⟩
theorem NdRes.fin {w w9 : World} {e : Ending} {g n c K : Nat} {A : Option Addr} {xs : List Int} (hr : NdRes (w.heap.size + 1) w9 e) (hs : Src w9 g A n c xs K) (hg : w.grownBy w9 (some g)) (hgl : g < w.heap.size) (v0 v1 v2 v3 v4 v5 : Value) :
    NdRes w.heap.size ((((((w9.setCell ⟨w.heap.size, 0, none⟩ v0).setCell ⟨w.heap.size, 1, none⟩ v1).setCell ⟨w.heap.size, 2, none⟩ v2).setCell ⟨w.heap.size, 3, none⟩ v3).setCell ⟨w.heap.size, 4, none⟩ v4).setCell ⟨w.heap.size, 5, none⟩ v5) e ∧
    Src ((((((w9.setCell ⟨w.heap.size, 0, none⟩ v0).setCell ⟨w.heap.size, 1, none⟩ v1).setCell ⟨w.heap.size, 2, none⟩ v2).setCell ⟨w.heap.size, 3, none⟩ v3).setCell ⟨w.heap.size, 4, none⟩ v4).setCell ⟨w.heap.size, 5, none⟩ v5) g A n c xs K ∧
    w.grownBy ((((((w9.setCell ⟨w.heap.size, 0, none⟩ v0).setCell ⟨w.heap.size, 1, none⟩ v1).setCell ⟨w.heap.size, 2, none⟩ v2).setCell ⟨w.heap.size, 3, none⟩ v3).setCell ⟨w.heap.size, 4, none⟩ v4).setCell ⟨w.heap.size, 5, none⟩ v5) (some g) := by
  have hB : Below w.heap.size w9 ((((((w9.setCell ⟨w.heap.size, 0, none⟩ v0).setCell ⟨w.heap.size, 1, none⟩ v1).setCell ⟨w.heap.size, 2, none⟩ v2).setCell ⟨w.heap.size, 3, none⟩ v3).setCell ⟨w.heap.size, 4, none⟩ v4).setCell ⟨w.heap.size, 5, none⟩ v5) :=
    ((((((Below.refl _ _).setCell (p := ⟨w.heap.size, 0, none⟩) (Nat.le_refl _) v0).setCell (p := ⟨w.heap.size, 1, none⟩) (Nat.le_refl _) v1).setCell (p := ⟨w.heap.size, 2, none⟩) (Nat.le_refl _) v2).setCell (p := ⟨w.heap.size, 3, none⟩) (Nat.le_refl _) v3).setCell (p := ⟨w.heap.size, 4, none⟩) (Nat.le_refl _) v4).setCell (p := ⟨w.heap.size, 5, none⟩) (Nat.le_refl _) v5
  have hr2 := (((((hr.put (p := ⟨w.heap.size, 0, none⟩) (Nat.lt_succ_self _) v0).put (p := ⟨w.heap.size, 1, none⟩) (Nat.lt_succ_self _) v1).put (p := ⟨w.heap.size, 2, none⟩) (Nat.lt_succ_self _) v2).put (p := ⟨w.heap.size, 3, none⟩) (Nat.lt_succ_self _) v3).put (p := ⟨w.heap.size, 4, none⟩) (Nat.lt_succ_self _) v4).put (p := ⟨w.heap.size, 5, none⟩) (Nat.lt_succ_self _) v5
  refine ⟨?_, hs.below hB hgl, grown_bl hg hB (Nat.le_refl _)⟩
  obtain ⟨x, s, h1, h2, h3, h4, h5⟩ := hr2
  exact ⟨x, s, h1, h2, h3, h4, h5.more (Nat.le_succ _)⟩
set_option maxRecDepth 100000 in
set_option maxHeartbeats 2000000 in
theorem l07Draw_src (g : Nat) (A : Option Addr) (n c K : Nat) (xs : List Int) (w : World) (hK : K ≤ 200) (h : Src w g A n c xs K) :
    Calls Tryz.prog 56 #[.pointer (some ⟨g, 0, none⟩)] w fun e w' => NdRes w.heap.size w' e ∧ Src w' g A n c xs (K + 700) ∧ w.grownBy w' (some g) := by
  have hgl := h.lt
  have hX := Bx.new w 33 (zN 0)
  have hB0 : Below w.heap.size w (w.alloc (Obj.cells (zN 0) 33)) := (by repeat' (first | exact Below.refl _ _ | (with_reducible first | assumption | exact Nat.le_refl _ | refine Below.alloc ?_ ?_ _ | refine Below.setCell ?_ ?_ _ | refine Below.drew ?_ | refine below_drewN ?_ _) | refine Below.trans ?_ (Below.mono (by assumption) ?_) | exact Below.size (by assumption) | omega | go_size | (simp at *; omega)))
  have hs0 := h.below hB0 hgl
  have hg0 : w.grownBy (w.alloc (Obj.cells (zN 0) 33)) (some g) := grown_bl (World.grownBy.refl w (some g)) hB0 (Nat.le_refl _)
  unfold zN at hX hs0 hg0
  have hP := hid (pick_src g A n c K xs 5 _ (by omega) (by omega) hs0)
  clear h hs0 hB0
  go_enter Tryz.func56, Tryz.ntmps56
  go_wp2_with fail
  refine hP.out.mono ?_
  rintro e w1 ⟨⟨j, j0, j1, rfl⟩, hs1, hg1⟩
  have X1 := hid (hX.grown hg1 (by intro e; injection e with e; omega))
  have hgg1 := grown_trans hg0 hg1
  have hz1 := hgg1.size
  have G1 := hid hgg1
  have S1 := hid hs1
  clear hX hg0 hP hgg1 hs1 hg1
  have hj : j = 0 ∨ j = 1 ∨ j = 2 ∨ j = 3 ∨ j = 4 := by omega
  clear j0 j1
  rcases hj with rfl | rfl | rfl | rfl | rfl
  · go_wp2_with fail
    refine (pick_src g A n c (K + 2) xs 5 w1 (by omega) (by omega) S1.out).mono ?_
    rintro e w2 ⟨⟨m, m0, m1, rfl⟩, hs2, hg2⟩
    obtain ⟨N, hN⟩ : ∃ N : Nat, 1 + m = (N : Int) := ⟨(1 + m).toNat, by omega⟩
    have hN1 : 1 ≤ N := by omega
    have hN2 : N ≤ 13 := by omega
    have z2 := hg2.size
    have S2 := hid hs2
    have G2 := hid (grown_trans G1.out hg2)
    have X2 := hid (X1.out.grown hg2 (by intro e; injection e with e; omega))
    clear m0 m1 hs2 hg2 X1 S1 G1
    go_wp2_with fail
    clear hN
    refine (l04Draw_src g A n c (K + 2 + 2) xs N w2 (by omega) hN1 hN2 S2.out).mono ?_
    rintro e w9 ⟨⟨A2, c2, rfl, hM⟩, hs9, hg9⟩
    have G9 := hid (grown_trans G2.out hg9)
    have R9 := hid (NdRes.m (B := w.heap.size + 1) hN2 (by obtain ⟨q, q1, q2⟩ := hM; exact ⟨q, q1.more (by have := X2.out.lt; omega), q2⟩))
    have S9 := hid (hs9.more (by omega : K + 2 + 2 + 300 ≤ K + 700))
    have X9 := hid (X2.out.grown hg9 (by intro e; injection e with e; omega))
    clear hM hs9 hg9 X2
    obtain ⟨⟨a0, a1, a2, a3, a4, a5⟩, ⟨b0, b1, b2, b3, b4, b5⟩⟩ := zc X9.out
    go_wp2
    refine bodyPost_ret (v := .agg #[.int .i64 2, .slice none 0 0, .slice A2 N c2, .slice none 0 0, .slice none 0 0, .slice none 0 0]) ?_ rfl ?_
    · simp (maxDischargeDepth := 8) [results, Tryz.results56, go_sem, *]
    exact NdRes.fin R9.out S9.out G9.out hgl _ _ _ _ _ _
  · go_wp2_with fail
    refine (l05Draw_b g A n c (K + 2) xs 3 w1 (by omega) (by omega) (by omega) S1.out).mono ?_
    rintro e w9 ⟨v, rfl, ⟨q, hq1, hq2, hq3, ho⟩, hs9, hg9⟩
    obtain ⟨A2, c2, rfl⟩ := own_form ho
    have G9 := hid (grown_trans G1.out hg9)
    have R9 := hid (NdRes.s (B := w.heap.size + 1) ⟨q, hq1, hq2, hq3, own_more ho (by have := X1.out.lt; omega)⟩)
    have S9 := hid (hs9.more (by omega : K + 2 + 50 ≤ K + 700))
    have X9 := hid (X1.out.grown hg9 (by intro e; injection e with e; omega))
    clear hq1 hq2 hq3 ho hs9 hg9 X1
    obtain ⟨⟨a0, a1, a2, a3, a4, a5⟩, ⟨b0, b1, b2, b3, b4, b5⟩⟩ := zc X9.out
    go_wp2
    refine bodyPost_ret (v := .agg #[.int .i64 3, .slice none 0 0, .slice none 0 0, .slice A2 q.length c2, .slice none 0 0, .slice none 0 0]) ?_ rfl ?_
    · simp (maxDischargeDepth := 8) [results, Tryz.results56, go_sem, *]
    exact NdRes.fin R9.out S9.out G9.out hgl _ _ _ _ _ _
  · go_wp2_with fail
    refine (l06Draw_b g A n c (K + 2) xs w1 (by omega) S1.out).mono ?_
    rintro e w9 ⟨⟨N, gA, cA, gB, cB, hN1, hN2, rfl, a, b, hab, h1, h2⟩, hs9, hg9⟩
    have G9 := hid (grown_trans G1.out hg9)
    have R9 := hid (NdRes.q (B := w.heap.size + 1) hN2 ⟨a, b, hab, own_more h1 (by have := X1.out.lt; omega), own_more h2 (by have := X1.out.lt; omega)⟩)
    have S9 := hid (hs9.more (by omega : K + 2 + 130 ≤ K + 700))
    have X9 := hid (X1.out.grown hg9 (by intro e; injection e with e; omega))
    clear hs9 hg9 h1 h2 hab X1
    obtain ⟨⟨a0, a1, a2, a3, a4, a5⟩, ⟨b0, b1, b2, b3, b4, b5⟩⟩ := zc X9.out
    go_wp2
    refine bodyPost_ret (v := .agg #[.int .i64 4, .slice none 0 0, .slice none 0 0, .slice none 0 0, .slice (some ⟨gA, 0, none⟩) N cA, .slice (some ⟨gB, 0, none⟩) N cB]) ?_ rfl ?_
    · simp (maxDischargeDepth := 8) [results, Tryz.results56, go_sem, *]
    exact NdRes.fin R9.out S9.out G9.out hgl _ _ _ _ _ _
  · go_wp2_with fail
    refine (l05Draw_b g A n c (K + 2) xs 3 w1 (by omega) (by omega) (by omega) S1.out).mono ?_
    rintro e w2 ⟨v, rfl, ⟨q, hq1, hq2, hq3, ho⟩, hs2, hg2⟩
    obtain ⟨A2, c2, rfl⟩ := own_form ho
    have G2 := hid (grown_trans G1.out hg2)
    have z2 := hg2.size
    have S2 := hid hs2
    have X2 := hid (X1.out.grown hg2 (by intro e; injection e with e; omega))
    have hz2b := X2.out.lt
    have HC := hid (specSlideSync_any A2 q.length c2 q w2 (by omega) (Rd.of_own ho))
    have HL := hid (rSlide_le hq2)
    clear hs2 hg2 ho S1 X1 G1 hq3
    go_wp2_with fail
    refine HC.out.mono ?_
    rintro e w3 ⟨⟨A3, c3, hA3, rfl, ho3⟩, hb3⟩
    have G3 := hid (grown_bl G2.out hb3 (by omega))
    have z3 := hb3.size
    have S3 := hid (S2.out.below hb3 (by omega))
    have X3 := hid (X2.out.below hb3 X2.out.lt)
    obtain ⟨⟨p, cd⟩, hp⟩ : ∃ p, rSlide q = p := ⟨_, rfl⟩
    rw [hp] at ho3 HL ⊢
    simp only at ho3 ⊢
    have HO := hid ho3
    have HL : Hid (p.length ≤ 6) := HL
    clear HC ho3 hb3 G2 S2 X2 hp hA3
    go_wp2_with fail
    refine (pick_src g A n c (K + 2 + 50) xs 4 w3 (by omega) (by omega) S3.out).mono ?_
    rintro e w4 ⟨⟨m, m0, m1, rfl⟩, hs4, hg4⟩
    obtain ⟨N, hN⟩ : ∃ N : Nat, 1 + m = (N : Int) := ⟨(1 + m).toNat, by omega⟩
    have hN1 : 1 ≤ N := by omega
    have hN2 : N ≤ 4 := by omega
    have z4 := hg4.size
    have S4 := hid hs4
    have G4 := hid (grown_trans G3.out hg4)
    have X4 := hid (X3.out.grown hg4 (by intro e; injection e with e; omega))
    have HO4 := hid (own_more (base' := w.heap.size + 1) (own_ask HO.out S3.out hg4) (by have := hz2b; omega))
    clear m0 m1 hs4 hg4 X3 S3 G3 HO
    go_wp2_with fail
    clear hN
    refine (l07From_any A3 p.length c3 (w.heap.size + 1) p N w4 hN1 hN2 rfl (by have := HL.out; omega) (by omega) HO4.out).mono ?_
    rintro e w5 ⟨⟨⟨k, p1, m1, y1, q1, q2⟩, s, str, code, rfl, hsm, hle, hdr⟩, hb5⟩
    simp only [ntV] at hle ⊢
    have z5 := hb5.size
    have S5 := hid (S4.out.below hb5 (by omega))
    have G5 := hid (grown_bl G4.out hb5 (by omega))
    have X5 := hid (X4.out.below hb5 X4.out.lt)
    have D5 := hid hdr
    have M5 := hid hsm
    have L5 := hid hle
    clear hb5 hdr hsm hle S4 G4 X4 HO4
    have hbA : Below w5.heap.size w5 (w5.alloc (Obj.cells #[.int .i64 k, .slice s.A p1.length s.c, .slice s.A2 m1.length s.c2, .slice s.A3 y1.length s.c3, .slice s.A4 q1.length s.c4, .slice s.A5 q2.length s.c5] 33)) := (by repeat' (first | exact Below.refl _ _ | (with_reducible first | assumption | exact Nat.le_refl _ | refine Below.alloc ?_ ?_ _ | refine Below.setCell ?_ ?_ _ | refine Below.drew ?_ | refine below_drewN ?_ _) | refine Below.trans ?_ (Below.mono (by assumption) ?_) | exact Below.size (by assumption) | omega | go_size | (simp at *; omega)))
    have Y6 := hid (Bx.new w5 33 #[.int .i64 k, .slice s.A p1.length s.c, .slice s.A2 m1.length s.c2, .slice s.A3 y1.length s.c3, .slice s.A4 q1.length s.c4, .slice s.A5 q2.length s.c5])
    have S6 := hid (S5.out.below hbA (by omega))
    have G6 := hid (grown_bl G5.out hbA (by omega))
    have X6 := hid (X5.out.below hbA X5.out.lt)
    have D6 := hid (D5.out.below hbA)
    have Z6 := hid hbA.size
    clear hbA S5 G5 X5 D5
    go_wp2_with fail
    obtain ⟨W, hW⟩ : ∃ W, w5.alloc (Obj.cells #[.int .i64 k, .slice s.A p1.length s.c, .slice s.A2 m1.length s.c2, .slice s.A3 y1.length s.c3, .slice s.A4 q1.length s.c4, .slice s.A5 q2.length s.c5] 33) = W := ⟨_, rfl⟩
    rw [hW] at Y6 S6 G6 X6 D6 Z6 ⊢
    clear hW
    refine (l07Ok_any w5.heap.size k p1 m1 y1 q1 q2 s W M5.out Y6.out D6.out.rd).mono ?_
    rintro e w6 ⟨rfl, hb6⟩
    have hzW := Z6.out
    have S7 := hid (S6.out.below hb6 (by omega))
    have G7 := hid (grown_bl G6.out hb6 (by omega))
    have X7 := hid (X6.out.below hb6 X6.out.lt)
    have Y7 := hid (Y6.out.below hb6 Y6.out.lt)
    have D7 := hid (D6.out.below hb6)
    clear hb6 S6 G6 X6 Y6 D6 hzW Z6
    cases hv : ntOk (k, p1, m1, y1, (q1, q2)) with
    | true =>
      have R9 := hid (⟨(k, p1, m1, y1, (q1, q2)), s, rfl, M5.out, ntOk_tx hv, ntOk_sm hv L5.out, D7.out⟩ : NdRes (w.heap.size + 1) w6 (.returned (ntV (k, p1, m1, y1, (q1, q2)) s)))
      have S9 := hid (S7.out.more (by omega : K + 54 ≤ K + 700))
      obtain ⟨⟨a0, a1, a2, a3, a4, a5⟩, ⟨b0, b1, b2, b3, b4, b5⟩⟩ := zc X7.out
      obtain ⟨⟨d0, d1, d2, d3, d4, d5⟩, -⟩ := zc Y7.out
      simp only [ntV] at R9
      clear hv
      go_wp2
      refine bodyPost_ret (v := .agg #[.int .i64 k, .slice s.A p1.length s.c, .slice s.A2 m1.length s.c2, .slice s.A3 y1.length s.c3, .slice s.A4 q1.length s.c4, .slice s.A5 q2.length s.c5]) ?_ rfl ?_
      · simp (maxDischargeDepth := 8) [results, Tryz.results56, go_sem, *]
      exact NdRes.fin R9.out S9.out G7.out hgl _ _ _ _ _ _
    | false =>
      clear hv
      go_wp2_with fail
      refine (l02Draw_src g A n c (K + 54) xs 7 w6 (by omega) (by omega) (by omega) S7.out).mono ?_
      rintro e w9 ⟨v, rfl, ⟨q, hq, ho⟩, hs9, hg9⟩
      obtain ⟨A2, c2, rfl⟩ := own_form ho
      have G9 := hid (grown_trans G7.out hg9)
      have R9 := hid (NdRes.p (B := w.heap.size + 1) ⟨q, hq, own_more ho (by have := X7.out.lt; omega)⟩)
      have S9 := hid (hs9.more (by omega : K + 54 + 500 ≤ K + 700))
      have X9 := hid (X7.out.grown hg9 (by intro e; injection e with e; omega))
      clear hq ho hs9 hg9 X7
      obtain ⟨⟨a0, a1, a2, a3, a4, a5⟩, ⟨b0, b1, b2, b3, b4, b5⟩⟩ := zc X9.out
      go_wp2
      refine bodyPost_ret (v := .agg #[.int .i64 1, .slice A2 q.length c2, .slice none 0 0, .slice none 0 0, .slice none 0 0, .slice none 0 0]) ?_ rfl ?_
      · simp (maxDischargeDepth := 8) [results, Tryz.results56, go_sem, *]
      exact NdRes.fin R9.out S9.out G9.out hgl _ _ _ _ _ _
  · go_wp2_with fail
    refine (l02Draw_src g A n c (K + 2) xs 7 w1 (by omega) (by omega) (by omega) S1.out).mono ?_
    rintro e w9 ⟨v, rfl, ⟨q, hq, ho⟩, hs9, hg9⟩
    obtain ⟨A2, c2, rfl⟩ := own_form ho
    have G9 := hid (grown_trans G1.out hg9)
    have R9 := hid (NdRes.p (B := w.heap.size + 1) ⟨q, hq, own_more ho (by have := X1.out.lt; omega)⟩)
    have S9 := hid (hs9.more (by omega : K + 2 + 500 ≤ K + 700))
    have X9 := hid (X1.out.grown hg9 (by intro e; injection e with e; omega))
    clear hq ho hs9 hg9 X1
    obtain ⟨⟨a0, a1, a2, a3, a4, a5⟩, ⟨b0, b1, b2, b3, b4, b5⟩⟩ := zc X9.out
    go_wp2
    refine bodyPost_ret (v := .agg #[.int .i64 1, .slice A2 q.length c2, .slice none 0 0, .slice none 0 0, .slice none 0 0, .slice none 0 0]) ?_ rfl ?_
    · simp (maxDischargeDepth := 8) [results, Tryz.results56, go_sem, *]
    exact NdRes.fin R9.out S9.out G9.out hgl _ _ _ _ _ _
end Go.Proofs.YtgphkfnobmponaaGreat
