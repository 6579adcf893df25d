/- Several texts in one: Re, Rf, Rg, Mi, F6, Sk. -/
import Derived.Test.YtlbhfjbbkkkldaaQj
import Derived.Deep.RegionLaw
import Derived.Test.YtlbhfjbbkkkldaaMg
import Derived.Test.YtlbhfjbbkkkldaaMf
import Derived.Test.YtlbhfjbbkkkldaaGl
import Derived.Test.YtlbhfjbbkkkldaaCo
import Derived.Deep.QuietTactic
import Derived.BigQuiet
import Derived.Test.YtlbhfjbbkkkldaaC
import Derived.Test.YtlbhfjbbkkkldaaUa
import Derived.Deep.RegionHeld3
/- Contract of DrawMultiOf. -/
namespace Go.Proofs.Ytlbhfjbbkkkldaa
open Go.RowKit
set_option linter.unusedVariables false

/-- One list of the call's own. -/
def OneRow (B : Nat) (w : World) (e : Ending) : Prop := ∃ A c, ∃ a : List Int, e = .returned (.slice A a.length c) ∧ a.length ≤ 12 ∧ w.ownsRow B 2 1 (.slice A a.length c) a.length (ints a)
set_option maxRecDepth 100000 in
set_option maxHeartbeats 2000000 in
theorem DrawMultiOf_any (A : Option Addr) (n c : Nat) (xs : List Int) (w : World) (hn : n ≤ 1099511627776) (hx : ∀ x ∈ xs, 0 ≤ x ∧ x ≤ 255) (hr : Rd w w.heap.size 1 A n (xs.map (Value.int .u8))) :
    Calls Try.prog 49 #[.slice A n c] w fun e w' => OneRow w.heap.size w' e ∧ Below w.heap.size w w' := by
  have h0 := hid (l00From_any A n c xs w hn hx hr)
  clear hx hr
  go_enter Try.func49, Try.ntmps49
  go_wp2_with fail
  refine h0.out.mono ?_
  rintro e w1 ⟨rfl, hs1, hb1⟩
  have z1 := hb1.size
  have l1 := hs1.lt
  clear h0
  go_wp2_with fail
  refine (pick_src _ A n c 0 xs 7 w1 (by omega) (by omega) hs1).mono ?_
  rintro e w2 ⟨⟨x, x0, x1, rfl⟩, hs2, hg2⟩
  have hB2 : Below w.heap.size w w2 := hb1.grown hg2 z1 (fun g h => by simp at h; omega)
  have z2 := hg2.size
  obtain ⟨N, hN⟩ : ∃ N : Nat, 1 + x = (N : Int) := ⟨(1 + x).toNat, by omega⟩
  have hN1 : 1 ≤ N := by omega
  have hN2 : N ≤ 7 := by omega
  clear hg2 hs1 hb1
  go_wp2_with fail
  clear hN x0 x1
  refine (l04Site_src _ A n c (0 + 2) xs N _ (by omega) hN1 (by omega) hs2).mono ?_
  rintro e w3 ⟨v3, rfl, ⟨L, hL, ho3⟩, hs3, hg3⟩
  have hB3 : Below w.heap.size w w3 := hB2.grown hg3 (by omega) (fun g h => by simp at h; omega)
  have z3 := hg3.size
  have hLn := hL.len
  obtain ⟨gp, cp, rfl, hgp, hgp1⟩ := own_block ho3 (by omega)
  have hbd := hL.bd 0 (by omega)
  have hL7 : L.length ≤ 7 := by omega
  have hL1 : 0 < L.length := by omega
  obtain ⟨q, hq⟩ : ∃ q, L.getD 0 0 = q := ⟨_, rfl⟩
  rw [hq] at hbd
  obtain ⟨q0, q1⟩ := hbd
  have HQ := hid hq
  clear hg3 hs2 hL hLn hq
  go_wp2_with fail
  refine (one_src _ A n c (0 + 2 + 50) xs 6 w3 (by omega) (by omega) hs3).mono ?_
  rintro e w4 ⟨⟨b, rfl⟩, hs4, hg4⟩
  have hB4 : Below w.heap.size w w4 := hB3.grown hg4 (by omega) (fun g h => by simp at h; omega)
  have z4 := hg4.size
  have ho4 := own_ask ho3 hs3 hg4
  clear hg4 hs3 ho3
  cases b
  · go_wp2
    go_ret
    exact ⟨⟨_, _, L, rfl, by omega, own_more ho4 (by omega)⟩, hB4⟩
  · have hq4 : w4.cell? ⟨gp, 0, none⟩ = some (.int .i64 q) := by
      rw [ho4.cellAt 0 (by omega), ← HQ.out]
      exact ints_at hL1
    have HO4 := hid ho4
    have HB4 := hid hB4
    have hgl : w.heap.size < w4.heap.size := hs4.lt
    have HPK := hid (fun (w' : World) (b1 : Below w4.heap.size w4 w') => (pick_src _ A n c (0 + 2 + 50 + 2) xs 3 w' (by omega) (by omega) (hs4.below b1 hgl)).mono (fun e w'' h => show ∃ z : Int, e = .returned (.int .i64 z) ∧ 0 ≤ z ∧ z ≤ 2 ∧ w''.cell? ⟨gp, 0, none⟩ = some (.int .i64 q) ∧ w''.frozen? ⟨gp, 0, none⟩ = false ∧ Hid (w''.ownsRow w.heap.size 2 1 (.slice (some ⟨gp, 0, none⟩) L.length cp) L.length (ints L)) ∧ Hid (Below w.heap.size w w'') from by
      obtain ⟨⟨z, z0, z1, rfl⟩, k2, k3⟩ := h
      have o1 := own_ask (own_below HO4.out b1) (hs4.below b1 hgl) k3
      refine ⟨z, rfl, z0, by omega, ?_, o1.frozenAt 0, own_more o1 (by omega), (bchain HB4.out b1).grown k3 (by have := b1.size; omega) (fun g h => by simp at h; omega)⟩
      rw [o1.cellAt 0 (by omega), ← HQ.out]
      exact ints_at hL1))
    clear ho4 hB4 hs4
    go_wp2
    go_region_law (go_simp; go_wp2_with (go_at_call 87; with_reducible refine (HPK.out _ ?_).mono ?_; (repeat' (first | (with_reducible exact Below.refl _ _) | (with_reducible refine Below.drew ?_) | (with_reducible refine below_drewN ?_ _))); rintro e w5 ⟨z, rfl, zz0, zz1, k1, k2, k3, k4⟩))
    all_goals
      have FIN : Hid (∀ v : Int, OneRow w.heap.size (w5.setCell ⟨gp, 0, none⟩ (.int .i64 v)) (.returned (.slice (some ⟨gp, 0, none⟩) L.length cp)) ∧ Below w.heap.size w (w5.setCell ⟨gp, 0, none⟩ (.int .i64 v))) := by
        refine hid fun v => ⟨⟨some ⟨gp, 0, none⟩, cp, L.set 0 v, by rw [List.length_set], by rw [List.length_set]; omega, ?_⟩, k4.out.setCell (p := ⟨gp, 0, none⟩) (by show w.heap.size ≤ gp; omega) _⟩
        have h := (k3.out.stored 0 (.int .i64 v)).1
        rw [ints_setD] at h
        rw [List.length_set]
        exact h
      clear HPK HO4 HB4 k1 k2 k3 k4
      go_wp2
      go_ret
      exact FIN.out _
end Go.Proofs.Ytlbhfjbbkkkldaa

/- Contract of DrawSingleOf. -/
namespace Go.Proofs.Ytlbhfjbbkkkldaa
open Go.RowKit
set_option linter.unusedVariables false

set_option maxRecDepth 100000 in
set_option maxHeartbeats 2000000 in
theorem DrawSingleOf_any (A : Option Addr) (n c : Nat) (xs : List Int) (w : World) (hn : n ≤ 1099511627776) (hx : ∀ x ∈ xs, 0 ≤ x ∧ x ≤ 255) (hr : Rd w w.heap.size 1 A n (xs.map (Value.int .u8))) :
    Calls Try.prog 52 #[.slice A n c] w fun e w' => MbRes w.heap.size w' e ∧ Below w.heap.size w w' := by
  have hX := Bx.new w 26 #[.slice none 0 0]
  have hB0 : Below w.heap.size w (w.alloc (Obj.cells #[.slice none 0 0] 26)) := (by repeat' (first | exact Below.refl _ _ | (with_reducible assumption) | (with_reducible refine Below.alloc ?_ ?_ _) | (with_reducible refine Below.setCell ?_ ?_ _) | (with_reducible refine Below.drew ?_) | (with_reducible refine below_drewN ?_ _) | (refine Below.trans ?_ (Below.mono (by assumption) ?_)) | (with_reducible exact Nat.le_refl _) | (with_reducible assumption) | (exact Below.size (by assumption)) | omega | go_size | (simp at *; omega)))
  have hzz : (w.alloc (Obj.cells #[.slice none 0 0] 26)).heap.size = w.heap.size + 1 := by simp
  have h0 := l00From_any A n c xs (w.alloc (Obj.cells #[.slice none 0 0] 26)) hn hx ((hr.below hB0 (Nat.le_refl _)).more hB0.size)
  rw [hzz] at h0
  have h0 := hid h0
  have HX := hid hX
  have HB := hid hB0
  clear hx hr hX hB0 hzz
  go_enter Try.func52, Try.ntmps52
  go_wp2_with fail
  refine h0.out.mono ?_
  rintro e w1 ⟨rfl, hs1, hb1⟩
  have hX1 := hid (HX.out.below hb1 (Nat.lt_succ_self _))
  have hB1 := hid (HB.out.trans (hb1.mono (Nat.le_succ _)))
  have hl0 : w.heap.size < w1.heap.size := hX1.out.lt
  have hS := hid hs1
  clear h0 HX HB hs1 hb1
  go_wp2_with fail
  refine (one_src _ A n c 0 xs 2 w1 (by omega) (by omega) hS.out).mono ?_
  rintro e w2 ⟨⟨b, rfl⟩, hs2, hg2⟩
  have hX2 := hid (hX1.out.grown hg2 (fun e => by injection e with e; omega))
  have hB2 := hid (hB1.out.grown hg2 hB1.out.size (fun g h => by injection h with h; omega))
  have z2 := hg2.size
  have hl2 : w.heap.size < w2.heap.size := by omega
  have hS2 := hid hs2
  clear hX1 hB1 hS hg2 hs2
  cases b
  · go_wp2_with fail
    refine (l04Bent_src _ A n c (0 + 2) xs w2 (by omega) hS2.out).mono ?_
    rintro e w3 ⟨⟨A2, n2, c2, rfl, rows, hm, hn2, hr2⟩, hs3, hg3⟩
    have hX3 := hX2.out.grown hg3 (fun e => by injection e with e; omega)
    have hB3 : Below w.heap.size w w3 := hB2.out.grown hg3 hB2.out.size (fun g h => by injection h with h; omega)
    have e0 := bx_c0 hX3
    have e1 := hX3.frozen 0
    have HM := hid ((hm.setCell (p := ⟨w.heap.size, 0, none⟩) (.inl hl2) (.slice A2 n2 c2)).more (Nat.le_of_lt hl2) (show w3.heap.size ≤ (w3.setCell ⟨w.heap.size, 0, none⟩ (.slice A2 n2 c2)).heap.size by simp))
    have HB3 := hid hB3
    have HR := hid hr2
    clear hg3 hs3 hX3 hB3 hm hS2 hX2 hB2 hr2
    go_wp2
    refine bodyPost_ret (v := .agg #[.slice A2 n2 c2]) ?_ rfl ?_
    · simp (maxDischargeDepth := 8) [results, Try.results52, go_sem, *]
    exact ⟨⟨A2, n2, c2, rfl, rows, HM.out, hn2, HR.out⟩, HB3.out.setCell (p := ⟨w.heap.size, 0, none⟩) (by show w.heap.size ≤ w.heap.size; exact Nat.le_refl _) _⟩
  · go_wp2_with fail
    refine (pick_src _ A n c (0 + 2) xs 7 w2 (by omega) (by omega) hS2.out).mono ?_
    rintro e w3 ⟨⟨x, x0, x1, rfl⟩, hs3, hg3⟩
    have hX3 := hid (hX2.out.grown hg3 (fun e => by injection e with e; omega))
    have hB3 := hid (hB2.out.grown hg3 hB2.out.size (fun g h => by injection h with h; omega))
    have z3 := hg3.size
    have hS3 := hid hs3
    obtain ⟨N, hN⟩ : ∃ N : Nat, 1 + x = (N : Int) := ⟨(1 + x).toNat, by omega⟩
    have hN1 : 1 ≤ N := by omega
    have hN2 : N ≤ 7 := by omega
    clear hX2 hB2 hS2 hg3 hs3
    go_wp2_with fail
    clear hN x0 x1
    refine (l04Site_src _ A n c (0 + 2 + 2) xs N _ (by omega) hN1 (by omega) hS3.out).mono ?_
    rintro e w4 ⟨v4, rfl, ⟨L, hL, ho4⟩, hs4, hg4⟩
    obtain ⟨A4, c4, rfl⟩ := own_form ho4
    have hX4 := hid (hX3.out.grown hg4 (fun e => by injection e with e; omega))
    have hB4 := hid (hB3.out.grown hg4 hB3.out.size (fun g h => by injection h with h; omega))
    have z4 := hg4.size
    have hC := hid (l04Single_any A4 L.length c4 L w4 (by have := hL.len; omega) (Rd.of_own ho4))
    have HLN := hid hL.len
    have hl4 : w.heap.size < w4.heap.size := by omega
    clear hX3 hB3 hS3 hg4 hs4 ho4 hL
    go_wp2_with fail
    refine hC.out.mono ?_
    rintro e w5 ⟨⟨A5, c5, rfl, hG5⟩, hb5⟩
    have hX5 := hX4.out.below hb5 hX4.out.lt
    have hB5 := bchain hB4.out hb5
    have hl7 : (rSing L).length ≤ 13 := by rw [rSing_len, HLN.out]; omega
    have e0 := bx_c0 hX5
    have e1 := hX5.frozen 0
    obtain ⟨m5, hm5⟩ : ∃ m, (rSing L).length = m := ⟨_, rfl⟩
    rw [hm5] at hG5 hl7 ⊢
    have HM := hid ((hG5.rdH.setCell (p := ⟨w.heap.size, 0, none⟩) (.inl hl4) (.slice A5 m5 c5)).more (Nat.le_of_lt hl4) (show w5.heap.size ≤ (w5.setCell ⟨w.heap.size, 0, none⟩ (.slice A5 m5 c5)).heap.size by simp))
    have HB5 := hid hB5
    have HR : Hid (∀ r ∈ rSing L, r.length ≤ 5) := fun r hr => by
      obtain ⟨x, _, rfl⟩ := List.mem_map.1 hr
      simp
    clear hC hX4 hB4 hb5 hX5 hB5 hG5 hm5
    go_wp2
    refine bodyPost_ret (v := .agg #[.slice A5 m5 c5]) ?_ rfl ?_
    · simp (maxDischargeDepth := 8) [results, Try.results52, go_sem, *]
    exact ⟨⟨A5, m5, c5, rfl, rSing L, HM.out, hl7, HR.out⟩, HB5.out.setCell (p := ⟨w.heap.size, 0, none⟩) (by show w.heap.size ≤ w.heap.size; exact Nat.le_refl _) _⟩
end Go.Proofs.Ytlbhfjbbkkkldaa

/- Contract of DrawSortBeat. -/
namespace Go.Proofs.Ytlbhfjbbkkkldaa
open Go.RowKit
set_option linter.unusedVariables false

theorem three_q (w : World) (t : TypeId) : ∀ i, i < 3 → ∃ y : Int, True ∧ (w.alloc (Obj.cells #[.int .i64 (-1), .int .i64 15, .int .i64 16] t)).cell? ⟨w.heap.size, 0 + i, none⟩ = some (.int .i64 y) := by
  intro i hi
  match i, hi with
  | 0, _ => exact ⟨-1, trivial, by simp⟩
  | 1, _ => exact ⟨15, trivial, by simp⟩
  | 2, _ => exact ⟨16, trivial, by simp⟩
set_option maxRecDepth 100000 in
set_option maxHeartbeats 2000000 in
theorem DrawSortBeat_any (A : Option Addr) (n c : Nat) (xs : List Int) (w : World) (hn : n ≤ 1099511627776) (hx : ∀ x ∈ xs, 0 ≤ x ∧ x ≤ 255) (hr : Rd w w.heap.size 1 A n (xs.map (Value.int .u8))) :
    Calls Try.prog 58 #[.slice A n c] w fun e w' => OneRow w.heap.size w' e ∧ Below w.heap.size w w' := by
  have h0 := hid (l00From_any A n c xs w hn hx hr)
  clear hx hr
  go_enter Try.func58, Try.ntmps58
  go_wp2_with fail
  refine h0.out.mono ?_
  rintro e w1 ⟨rfl, hs1, hb1⟩
  have z1 := hb1.size
  have l1 := hs1.lt
  have hb2 : Below w.heap.size w (w1.alloc (Obj.cells #[] 2)) := hb1.alloc z1 _
  have hs2 : Src (w1.alloc (Obj.cells #[] 2)) w.heap.size A n c xs 0 := hs1.below (B := w1.heap.size) ((Below.refl _ _).alloc (Nat.le_refl _) _) l1
  have ho2 : (w1.alloc (Obj.cells #[] 2)).ownsRow w1.heap.size 2 1 (.slice (some ⟨w1.heap.size, 0, none⟩) 0 0) ([] : List Int).length (ints []) := World.ownsRow_lit (base := w1.heap.size) w1 #[] (e := 2) (size := 1) 0 (Nat.le_refl _) (by simp [maxLen]) rfl
  have HS := hid hs2
  have HB := hid hb2
  have HO := hid ho2
  clear h0 hs1 hb1 hb2 hs2 ho2
  go_wp2_with fail
  refine (pick_src _ A n c 0 xs 7 _ (by omega) (by omega) HS.out).mono ?_
  rintro e w3 ⟨⟨j, j0, j1, rfl⟩, hs3, hg3⟩
  obtain ⟨J, rfl⟩ := Int.eq_ofNat_of_zero_le j0
  have hJ : J ≤ 6 := by omega
  have HB3 := hid (HB.out.grown hg3 HB.out.size (fun g h => by injection h with h; omega))
  have HO3 := hid (own_more (own_ask HO.out HS.out hg3) z1)
  have HS3 := hid hs3
  clear HS HB HO hs3 hg3 j1 j0
  go_wp2
  go_loopw [4, 5] (fun v i wr => Hid (∃ (j K2 : Nat) (L : List Int), i = .int .i64 j ∧ L.length + j ≤ 6 ∧ K2 + 2 * j ≤ 100 ∧ Src wr w.heap.size A n c xs K2 ∧ wr.ownsRow w.heap.size 2 1 v L.length (ints L) ∧ Below w.heap.size w wr)) (fun _ i _ => (intOf i).toNat)
  case atStart => exact hid ⟨J, 0 + 2, [], rfl, by simp; omega, by omega, HS3.out, HO3.out, HB3.out⟩
  case round =>
    clear HS3 HO3 HB3 hJ
    obtain ⟨j, K2, L, rfl, hj, hK2, hs, ho, hb⟩ := hrel.out
    clear hrel
    have hz := hb.size
    have HS := hid hs
    have HO := hid ho
    have HB := hid hb
    clear hs ho hb
    by_cases hj0 : 0 < j
    · have hq1 : (0 : Int) < (j : Int) := by omega
      go_wp2_with fail
      refine (pick_src _ A n c K2 xs 16 _ (by omega) (by omega) HS.out).mono ?_
      rintro e w5 ⟨⟨x, x0, x1, rfl⟩, hs5, hg5⟩
      have hb5 := HB.out.grown hg5 hz (fun g h => by injection h with h; omega)
      have ho5 := own_ask HO.out HS.out hg5
      have hz5 : w.heap.size ≤ w5.heap.size := hb5.size
      have hs6 := hid hs5
      have hL6 : L.length ≤ 6 := by omega
      clear hg5 HS HO hs5 x0 x1
      go_wp2_with (at_builtin; refine push_int ho5 x _ Try.underlying43 inf_int rfl rfl _ _ rfl rfl rfl (by omega) (by omega) ?_; intro v7 w7 ho7 hb7 hg7)
      have hl7 : w.heap.size < w7.heap.size := by
        have h1 := hs6.out.lt
        have h2 := hg7.size
        omega
      have hs7 : Src w7 w.heap.size A n c xs (K2 + 2) := by
        obtain ⟨a, s, h1, h2, h3, h4, h5, h6, h7, h8⟩ := hs6.out
        exact ⟨a, s, h1.grown hg7 (fun e => own_bne ho5 h1 (by decide) e.symm), h2, h3, h4, h5, h6, h7.keep fun p hp => by
          have hk := hb7.cell (p := p) (by omega)
          exact hk, h8⟩
      go_roundw
      case rel => exact hid ⟨j - 1, K2 + 2, L ++ [x], by go_num, by rw [List.length_append, List.length_singleton]; omega, by omega, hs7, ho7, hb5.trans hb7⟩
      case measure => simp [intOf]; omega
    · have hq1 : ¬ (0 : Int) < (j : Int) := by omega
      have hL6 : L.length ≤ 6 := by omega
      by_cases hL0 : 0 < L.length
      · obtain ⟨gp, cp, hv, hgp, hgp1⟩ := own_block HO.out hL0
        subst hv
        have hLi : (0 : Int) < (L.length : Int) := by omega
        go_wp2_with fail
        refine (one_src _ A n c K2 xs 8 _ (by omega) (by omega) HS.out).mono ?_
        rintro e w5 ⟨⟨b, rfl⟩, hs5, hg5⟩
        have hb5 := HB.out.grown hg5 hz (fun g h => by injection h with h; omega)
        have ho5 := own_ask HO.out HS.out hg5
        have hl5 : w.heap.size < w5.heap.size := hs5.lt
        clear hg5 HS HO HB
        cases b
        · go_wp2
          go_ret
          exact ⟨⟨_, _, L, rfl, by omega, ho5⟩, hb5⟩
        · have HS5 := hid (hs5.below (B := w5.heap.size) (show Below w5.heap.size w5 (w5.alloc (Obj.cells #[.int .i64 (-1), .int .i64 15, .int .i64 16] 2)) from (by repeat' (first | exact Below.refl _ _ | (with_reducible assumption) | (with_reducible refine Below.alloc ?_ ?_ _) | (with_reducible refine Below.setCell ?_ ?_ _) | (with_reducible refine Below.drew ?_) | (with_reducible refine below_drewN ?_ _) | (refine Below.trans ?_ (Below.mono (by assumption) ?_)) | (with_reducible exact Nat.le_refl _) | (with_reducible assumption) | (exact Below.size (by assumption)) | omega | go_size | (simp at *; omega)))) hl5)
          have HO5 := hid (ho5.alloc (Obj.cells #[.int .i64 (-1), .int .i64 15, .int .i64 16] 2))
          have HB5 := hid (hb5.alloc hb5.size (Obj.cells #[.int .i64 (-1), .int .i64 15, .int .i64 16] 2))
          have HC := hid (fun hs => among_in (fun _ => True) w.heap.size A n c (K2 + 2) xs w5.heap.size 0 3 3 (w5.alloc (Obj.cells #[.int .i64 (-1), .int .i64 15, .int .i64 16] 2)) (by omega) (by omega) (by simp) (by omega) (by omega) (three_q w5 _) hs)
          clear hs5 ho5 hb5
          go_wp2_with fail
          refine (HC.out HS5.out).mono ?_
          rintro e w6 ⟨⟨z, _, rfl⟩, hs6, hg6⟩
          have o6 := own_ask HO5.out HS5.out hg6
          have b6 := HB5.out.grown hg6 HB5.out.size (fun g h => by injection h with h; omega)
          obtain ⟨u, hu⟩ : ∃ u, w6.cell? ⟨gp, 0, none⟩ = some u := by
            rw [o6.cellAt 0 (by omega)]
            exact ⟨_, ints_at hL0⟩
          have hf := o6.frozenAt 0
          have hst := (o6.stored 0 (.int .i64 z)).1
          rw [ints_setD] at hst
          have HST := hid hst
          have HB6 := hid (b6.setCell (p := ⟨gp, 0, none⟩) (by show w.heap.size ≤ gp; omega) (.int .i64 z))
          have FIN : Hid (OneRow w.heap.size (w6.setCell ⟨gp, 0, none⟩ (.int .i64 z)) (.returned (.slice (some ⟨gp, 0, none⟩) L.length cp)) ∧ Below w.heap.size w (w6.setCell ⟨gp, 0, none⟩ (.int .i64 z))) :=
            ⟨⟨some ⟨gp, 0, none⟩, cp, L.set 0 z, by rw [List.length_set], by rw [List.length_set]; omega, by rw [List.length_set]; exact HST.out⟩, HB6.out⟩
          clear HC HS5 HO5 HB5 hs6 hg6 o6 b6 hst HST HB6
          go_wp2
          go_ret
          exact FIN.out
      · have hLi : ¬ (0 : Int) < (L.length : Int) := by omega
        obtain ⟨A5, c5, hv⟩ := own_form HO.out
        subst hv
        have hL13 : L.length ≤ 12 := by omega
        have hd1 : decide (0 < L.length) = false := decide_eq_false hL0
        clear HS
        go_wp2
        go_ret
        exact ⟨⟨_, _, L, rfl, hL13, HO.out⟩, HB.out⟩
end Go.Proofs.Ytlbhfjbbkkkldaa

/- Contracts that compare multiplex patterns: l00Same, sameNumbers, SameMulti (both). -/
namespace Go.Proofs.Ytlbhfjbbkkkldaa
open Go.RowKit
set_option linter.unusedVariables false

theorem sameNums_any (A A' : Option Addr) (n n' c c' : Nat) (xs ys : List Int) (w : World) (hn : n ≤ 1099511627776) (hn' : n' ≤ 1099511627776) (h : Rd w w.heap.size 1 A n (ints xs)) (h' : Rd w w.heap.size 1 A' n' (ints ys)) :
    Calls Try.prog 124 #[.slice A n c, .slice A' n' c'] w fun e w' => e = .returned (.bool (decide (xs = ys))) ∧ Below w.heap.size w w' := by
  have hl := h.len
  have hl' := h'.len
  by_cases hnn : n = n'
  · subst hnn
    have hst : Hid (decide (xs.drop 0 = ys.drop 0) = decide (xs = ys)) := rfl
    go_enter Try.func124, Try.ntmps124
    go_wp2
    go_loopw [13] (fun i wr => ∃ k : Nat, k ≤ n ∧ i = .int .i64 k ∧ Hid (decide (xs.drop k = ys.drop k) = decide (xs = ys)) ∧ Below w.heap.size w wr) (fun i _ => n - (intOf i).toNat)
    case atStart => exact ⟨0, Nat.zero_le _, rfl, hst, Below.refl _ _⟩
    case round =>
    obtain ⟨k, hk, rfl, he, hb0⟩ := hrel
    by_cases hlt : k < n
    · obtain ⟨b, off, x, rfl, hb, hx, hd, hc⟩ := (h.below hb0 (Nat.le_refl _)).at_ hlt
      obtain ⟨b', off', x', rfl, hb', hx', hd', hc'⟩ := (h'.below hb0 (Nat.le_refl _)).at_ hlt
      by_cases hxx : x = x'
      · have hq : (x != x') = false := by simp [hxx]
        have HZ : Hid (decide (xs.drop (k + 1) = ys.drop (k + 1)) = decide (xs = ys)) := by
          show _ = _
          rw [← he.out, hd, hd', hxx]; simp
        clear hx hx' hd hd' he hst h h' hb hb' hl hl' hxx
        go_wp2
        go_quiet (fail)
        go_wp2
        go_roundw
        case rel => exact ⟨k + 1, by omega, by go_num, HZ, (by repeat' (first | exact Below.refl _ _ | (with_reducible assumption) | (with_reducible refine Below.alloc ?_ ?_ _) | (with_reducible refine Below.setCell ?_ ?_ _) | (with_reducible refine Below.drew ?_) | (with_reducible refine below_drewN ?_ _) | (refine Below.trans ?_ (Below.mono (by assumption) ?_)) | (with_reducible exact Nat.le_refl _) | (with_reducible assumption) | (exact Below.size (by assumption)) | omega | go_size | (simp at *; omega)))⟩
        case measure => simp [intOf]; omega
      · have hq : (x != x') = true := by simpa using hxx
        have HZ : Hid (decide (xs = ys) = false) := by
          show _ = _
          rw [← he.out, hd, hd']; simp [hxx]
        clear hx hx' hd hd' he hst h h' hb hb' hl hl' hxx
        go_wp2
        go_quiet (fail)
        go_wp2
        go_ret
        exact ⟨ret_bool HZ.out.symm, (by repeat' (first | exact Below.refl _ _ | (with_reducible assumption) | (with_reducible refine Below.alloc ?_ ?_ _) | (with_reducible refine Below.setCell ?_ ?_ _) | (with_reducible refine Below.drew ?_) | (with_reducible refine below_drewN ?_ _) | (refine Below.trans ?_ (Below.mono (by assumption) ?_)) | (with_reducible exact Nat.le_refl _) | (with_reducible assumption) | (exact Below.size (by assumption)) | omega | go_size | (simp at *; omega)))⟩
    · have HZ : Hid (decide (xs = ys) = true) := by
        show _ = _
        rw [← he.out, List.drop_eq_nil_of_le (by omega), List.drop_eq_nil_of_le (by omega)]; rfl
      clear he hst hl hl' h h'
      go_wp2
      go_ret
      exact ⟨ret_bool HZ.out.symm, (by repeat' (first | exact Below.refl _ _ | (with_reducible assumption) | (with_reducible refine Below.alloc ?_ ?_ _) | (with_reducible refine Below.setCell ?_ ?_ _) | (with_reducible refine Below.drew ?_) | (with_reducible refine below_drewN ?_ _) | (refine Below.trans ?_ (Below.mono (by assumption) ?_)) | (with_reducible exact Nat.le_refl _) | (with_reducible assumption) | (exact Below.size (by assumption)) | omega | go_size | (simp at *; omega)))⟩
  · have HZ : Hid (decide (xs = ys) = false) := by
      show _ = _
      refine decide_eq_false fun e => hnn ?_
      rw [← hl, ← hl', e]
    clear hl hl' h h'
    go_enter Try.func124, Try.ntmps124
    go_wp2
    go_ret
    exact ⟨ret_bool HZ.out.symm, (by repeat' (first | exact Below.refl _ _ | (with_reducible assumption) | (with_reducible refine Below.alloc ?_ ?_ _) | (with_reducible refine Below.setCell ?_ ?_ _) | (with_reducible refine Below.drew ?_) | (with_reducible refine below_drewN ?_ _) | (refine Below.trans ?_ (Below.mono (by assumption) ?_)) | (with_reducible exact Nat.le_refl _) | (with_reducible assumption) | (exact Below.size (by assumption)) | omega | go_size | (simp at *; omega)))⟩
theorem l00Same_any (A A' : Option Addr) (n n' c c' : Nat) (xs ys : List Int) (w : World) (hn : n ≤ 1099511627776) (hn' : n' ≤ 1099511627776) (h : Rd w w.heap.size 1 A n (ints xs)) (h' : Rd w w.heap.size 1 A' n' (ints ys)) :
    Calls Try.prog 80 #[.slice A n c, .slice A' n' c'] w fun e w' => e = .returned (.bool (decide (xs = ys))) ∧ Below w.heap.size w w' := by
  have hl := h.len
  have hl' := h'.len
  by_cases hnn : n = n'
  · subst hnn
    have hst : Hid (decide (xs.drop 0 = ys.drop 0) = decide (xs = ys)) := rfl
    go_enter Try.func80, Try.ntmps80
    go_wp2
    go_loopw [5] (fun i wr => ∃ k : Nat, k ≤ n ∧ i = .int .i64 k ∧ Hid (decide (xs.drop k = ys.drop k) = decide (xs = ys)) ∧ Below w.heap.size w wr) (fun i _ => n - (intOf i).toNat)
    case atStart => exact ⟨0, Nat.zero_le _, rfl, hst, Below.refl _ _⟩
    case round =>
    obtain ⟨k, hk, rfl, he, hb0⟩ := hrel
    by_cases hlt : k < n
    · obtain ⟨b, off, x, rfl, hb, hx, hd, hc⟩ := (h.below hb0 (Nat.le_refl _)).at_ hlt
      obtain ⟨b', off', x', rfl, hb', hx', hd', hc'⟩ := (h'.below hb0 (Nat.le_refl _)).at_ hlt
      by_cases hxx : x = x'
      · have hq : (x != x') = false := by simp [hxx]
        have HZ : Hid (decide (xs.drop (k + 1) = ys.drop (k + 1)) = decide (xs = ys)) := by
          show _ = _
          rw [← he.out, hd, hd', hxx]; simp
        clear hx hx' hd hd' he hst h h' hb hb' hl hl' hxx
        go_wp2
        go_quiet (fail)
        go_wp2
        go_roundw
        case rel => exact ⟨k + 1, by omega, by go_num, HZ, (by repeat' (first | exact Below.refl _ _ | (with_reducible assumption) | (with_reducible refine Below.alloc ?_ ?_ _) | (with_reducible refine Below.setCell ?_ ?_ _) | (with_reducible refine Below.drew ?_) | (with_reducible refine below_drewN ?_ _) | (refine Below.trans ?_ (Below.mono (by assumption) ?_)) | (with_reducible exact Nat.le_refl _) | (with_reducible assumption) | (exact Below.size (by assumption)) | omega | go_size | (simp at *; omega)))⟩
        case measure => simp [intOf]; omega
      · have hq : (x != x') = true := by simpa using hxx
        have HZ : Hid (decide (xs = ys) = false) := by
          show _ = _
          rw [← he.out, hd, hd']; simp [hxx]
        clear hx hx' hd hd' he hst h h' hb hb' hl hl' hxx
        go_wp2
        go_quiet (fail)
        go_wp2
        go_ret
        exact ⟨ret_bool HZ.out.symm, (by repeat' (first | exact Below.refl _ _ | (with_reducible assumption) | (with_reducible refine Below.alloc ?_ ?_ _) | (with_reducible refine Below.setCell ?_ ?_ _) | (with_reducible refine Below.drew ?_) | (with_reducible refine below_drewN ?_ _) | (refine Below.trans ?_ (Below.mono (by assumption) ?_)) | (with_reducible exact Nat.le_refl _) | (with_reducible assumption) | (exact Below.size (by assumption)) | omega | go_size | (simp at *; omega)))⟩
    · have HZ : Hid (decide (xs = ys) = true) := by
        show _ = _
        rw [← he.out, List.drop_eq_nil_of_le (by omega), List.drop_eq_nil_of_le (by omega)]; rfl
      clear he hst hl hl' h h'
      go_wp2
      go_ret
      exact ⟨ret_bool HZ.out.symm, (by repeat' (first | exact Below.refl _ _ | (with_reducible assumption) | (with_reducible refine Below.alloc ?_ ?_ _) | (with_reducible refine Below.setCell ?_ ?_ _) | (with_reducible refine Below.drew ?_) | (with_reducible refine below_drewN ?_ _) | (refine Below.trans ?_ (Below.mono (by assumption) ?_)) | (with_reducible exact Nat.le_refl _) | (with_reducible assumption) | (exact Below.size (by assumption)) | omega | go_size | (simp at *; omega)))⟩
  · have HZ : Hid (decide (xs = ys) = false) := by
      show _ = _
      refine decide_eq_false fun e => hnn ?_
      rw [← hl, ← hl', e]
    clear hl hl' h h'
    go_enter Try.func80, Try.ntmps80
    go_wp2
    go_ret
    exact ⟨ret_bool HZ.out.symm, (by repeat' (first | exact Below.refl _ _ | (with_reducible assumption) | (with_reducible refine Below.alloc ?_ ?_ _) | (with_reducible refine Below.setCell ?_ ?_ _) | (with_reducible refine Below.drew ?_) | (with_reducible refine below_drewN ?_ _) | (refine Below.trans ?_ (Below.mono (by assumption) ?_)) | (with_reducible exact Nat.le_refl _) | (with_reducible assumption) | (exact Below.size (by assumption)) | omega | go_size | (simp at *; omega)))⟩
set_option maxRecDepth 100000 in
theorem specSameMulti_any (A A' : Option Addr) (n n' c c' : Nat) (rows rows' : List (List Int)) (w : World) (hn : n ≤ 1099511627776) (hn' : n' ≤ 1099511627776) (hl : ∀ r ∈ rows, r.length ≤ 1099511627776) (hl' : ∀ r ∈ rows', r.length ≤ 1099511627776) (h : RdG w w.heap.size A n rows) (h' : RdG w w.heap.size A' n' rows') :
    Calls Try.prog 16 #[.agg #[.slice A n c], .agg #[.slice A' n' c']] w fun e w' => e = .returned (.bool (decide (rows = rows'))) ∧ Below w.heap.size w w' := by
  have hl1 := h.len
  have hl2 := h'.len
  obtain ⟨W, hW⟩ : ∃ W, (w.alloc (Obj.cells #[.slice A n c] 26)).alloc (Obj.cells #[.slice A' n' c'] 26) = W := ⟨_, rfl⟩
  have hX : Bx W w.heap.size 26 #[.slice A n c] := by rw [← hW]; exact (Bx.new _ _ _).alloc _
  have hY : Bx W (w.heap.size + 1) 26 #[.slice A' n' c'] := by
    have := Bx.new (w.alloc (Obj.cells #[.slice A n c] 26)) 26 #[.slice A' n' c']
    rw [hW] at this
    simpa using this
  have hB : Below w.heap.size w W := by rw [← hW]; exact (by repeat' (first | exact Below.refl _ _ | (with_reducible assumption) | (with_reducible refine Below.alloc ?_ ?_ _) | (with_reducible refine Below.setCell ?_ ?_ _) | (with_reducible refine Below.drew ?_) | (with_reducible refine below_drewN ?_ _) | (refine Below.trans ?_ (Below.mono (by assumption) ?_)) | (with_reducible exact Nat.le_refl _) | (with_reducible assumption) | (exact Below.size (by assumption)) | omega | go_size | (simp at *; omega)))
  have HL1 := hid hl
  have HL2 := hid hl'
  by_cases hnn : n = n'
  · subst hnn
    have hst : Hid (decide (rows.drop 0 = rows'.drop 0) = decide (rows = rows')) := rfl
    have HST : Hid (∃ k : Nat, k = 0 ∧ Bx W w.heap.size 26 #[.slice A n c] ∧ Bx W (w.heap.size + 1) 26 #[.slice A' n c'] ∧ Below w.heap.size w W) := ⟨0, rfl, hX, hY, hB⟩
    rw [← hW] at HST
    clear hW hX hY hB hl hl' hl1 hl2 W
    go_enter Try.func16, Try.ntmps16
    go_wp2
    go_loopw [5] (fun i wr => Hid (∃ k : Nat, k ≤ n ∧ i = .int .i64 k ∧ Hid (decide (rows.drop k = rows'.drop k) = decide (rows = rows')) ∧ Bx wr w.heap.size 26 #[.slice A n c] ∧ Bx wr (w.heap.size + 1) 26 #[.slice A' n c'] ∧ Below w.heap.size w wr)) (fun i _ => n - (intOf i).toNat)
    case atStart =>
      obtain ⟨_, _, h1, h2, h3⟩ := HST.out
      exact hid ⟨0, Nat.zero_le _, rfl, hst, h1, h2, h3⟩
    case round =>
    clear HST
    obtain ⟨k, hk, rfl, he, hX, hY, hb0⟩ := hrel.out
    clear hrel
    have hz := hb0.size
    have hx1 := hX.lt
    have hy1 := hY.lt
    have x0 : wr.cell? ⟨w.heap.size, 0, none⟩ = some (.slice A n c) := hX.cell 0
    have y0 : wr.cell? ⟨w.heap.size + 1, 0, none⟩ = some (.slice A' n c') := hY.cell 0
    by_cases hlt : k < n
    · obtain ⟨b, off, row, Ai, ci, rfl, hb, hx, hd, hc, hrd⟩ := (h.below hb0 (Nat.le_refl _)).at_ hlt
      obtain ⟨b', off', row', Ai', ci', rfl, hb', hx', hd', hc', hrd'⟩ := (h'.below hb0 (Nat.le_refl _)).at_ hlt
      have hr1 := HL1.out row (List.mem_of_getElem? hx)
      have hr2 := HL2.out row' (List.mem_of_getElem? hx')
      have HE := hid (fun (w1 : World) (q : Below wr.heap.size wr w1) => l00Same_any Ai Ai' row.length row'.length ci ci' row row' w1 hr1 hr2 ((hrd.below q hz).more (Nat.le_trans hz q.size)) ((hrd'.below q hz).more (Nat.le_trans hz q.size)))
      by_cases hxx : row = row'
      · have HZ : Hid (decide (rows.drop (k + 1) = rows'.drop (k + 1)) = decide (rows = rows')) := by
          show _ = _
          rw [← he.out, hd, hd', hxx]; simp
        have HT : Hid (decide (row = row') = true) := decide_eq_true hxx
        have HX := hid hX
        have HY := hid hY
        clear hx hx' hd hd' he h h' hb hb' hxx hrd hrd' hst hX hY hr1 hr2
        go_wp2
        go_still_tail 10, (by kernel_rfl)
        change wpList _ _ _ _ _ wr.drew
        have hb1 : Below w.heap.size w wr.drew := hb0.drew
        have hX1 := hid (HX.out.drew)
        have hY1 := hid (HY.out.drew)
        have hq : Below wr.heap.size wr wr.drew := (Below.refl _ _).drew
        have hzz : wr.heap.size = wr.drew.heap.size := rfl
        have HQ := hid hzz
        clear hzz x0 y0 hc hc' HX HY
        generalize wr.drew = w2 at *
        go_wp2_with (go_at_call 80; refine (HE.out _ hq).mono ?_; rw [HT.out]; rintro e w3 ⟨rfl, hb2⟩)
        have hzq := HQ.out
        have hxq : w.heap.size < w2.heap.size := hX1.out.lt
        have hyq : w.heap.size + 1 < w2.heap.size := hY1.out.lt
        go_roundw
        case rel => exact hid ⟨k + 1, by omega, by go_num, HZ, hX1.out.below hb2 hxq, hY1.out.below hb2 hyq, hb1.trans (hb2.mono (by omega))⟩
        case measure => simp [intOf]; omega
      · have HZ : Hid (decide (rows = rows') = false) := by
          show _ = _
          rw [← he.out, hd, hd']; simp [hxx]
        have HT : Hid (decide (row = row') = false) := decide_eq_false hxx
        clear hx hx' hd hd' he h h' hb hb' hxx hrd hrd' hst hX hY hr1 hr2
        go_wp2
        go_still_tail 10, (by kernel_rfl)
        change wpList _ _ _ _ _ wr.drew
        have hb1 : Below w.heap.size w wr.drew := hb0.drew
        have hq : Below wr.heap.size wr wr.drew := (Below.refl _ _).drew
        have hzz : wr.heap.size = wr.drew.heap.size := rfl
        have HQ := hid hzz
        clear hzz x0 y0 hc hc'
        generalize wr.drew = w2 at *
        go_wp2_with (go_at_call 80; refine (HE.out _ hq).mono ?_; rw [HT.out]; rintro e w3 ⟨rfl, hb2⟩)
        go_ret
        exact ⟨ret_bool HZ.out.symm, hb1.trans (hb2.mono (by have := HQ.out; omega))⟩
    · have HZ : Hid (decide (rows = rows') = true) := by
        show _ = _
        have e1 := h.len
        have e2 := h'.len
        rw [← he.out, List.drop_eq_nil_of_le (by omega), List.drop_eq_nil_of_le (by omega)]; rfl
      clear he hst h h' hX hY
      go_wp2
      go_ret
      exact ⟨ret_bool HZ.out.symm, hb0⟩
  · have HZ : Hid (decide (rows = rows') = false) := by
      show _ = _
      refine decide_eq_false fun e => hnn ?_
      rw [← hl1, ← hl2, e]
    clear hl1 hl2 h h' hl hl' hX hY hB hW HL1 HL2 W
    go_enter Try.func16, Try.ntmps16
    go_wp2
    go_ret
    exact ⟨ret_bool HZ.out.symm, (by repeat' (first | exact Below.refl _ _ | (with_reducible assumption) | (with_reducible refine Below.alloc ?_ ?_ _) | (with_reducible refine Below.setCell ?_ ?_ _) | (with_reducible refine Below.drew ?_) | (with_reducible refine below_drewN ?_ _) | (refine Below.trans ?_ (Below.mono (by assumption) ?_)) | (with_reducible exact Nat.le_refl _) | (with_reducible assumption) | (exact Below.size (by assumption)) | omega | go_size | (simp at *; omega)))⟩
set_option maxRecDepth 100000 in
theorem SameMulti_any (A A' : Option Addr) (n n' c c' : Nat) (rows rows' : List (List Int)) (w : World) (hn : n ≤ 1099511627776) (hn' : n' ≤ 1099511627776) (hl : ∀ r ∈ rows, r.length ≤ 1099511627776) (hl' : ∀ r ∈ rows', r.length ≤ 1099511627776) (h : RdG w w.heap.size A n rows) (h' : RdG w w.heap.size A' n' rows') :
    Calls Try.prog 62 #[.agg #[.slice A n c], .agg #[.slice A' n' c']] w fun e w' => e = .returned (.bool (decide (rows = rows'))) ∧ Below w.heap.size w w' := by
  have hl1 := h.len
  have hl2 := h'.len
  obtain ⟨W, hW⟩ : ∃ W, (w.alloc (Obj.cells #[.slice A n c] 26)).alloc (Obj.cells #[.slice A' n' c'] 26) = W := ⟨_, rfl⟩
  have hX : Bx W w.heap.size 26 #[.slice A n c] := by rw [← hW]; exact (Bx.new _ _ _).alloc _
  have hY : Bx W (w.heap.size + 1) 26 #[.slice A' n' c'] := by
    have := Bx.new (w.alloc (Obj.cells #[.slice A n c] 26)) 26 #[.slice A' n' c']
    rw [hW] at this
    simpa using this
  have hB : Below w.heap.size w W := by rw [← hW]; exact (by repeat' (first | exact Below.refl _ _ | (with_reducible assumption) | (with_reducible refine Below.alloc ?_ ?_ _) | (with_reducible refine Below.setCell ?_ ?_ _) | (with_reducible refine Below.drew ?_) | (with_reducible refine below_drewN ?_ _) | (refine Below.trans ?_ (Below.mono (by assumption) ?_)) | (with_reducible exact Nat.le_refl _) | (with_reducible assumption) | (exact Below.size (by assumption)) | omega | go_size | (simp at *; omega)))
  have HL1 := hid hl
  have HL2 := hid hl'
  by_cases hnn : n = n'
  · subst hnn
    have hst : Hid (decide (rows.drop 0 = rows'.drop 0) = decide (rows = rows')) := rfl
    have HST : Hid (∃ k : Nat, k = 0 ∧ Bx W w.heap.size 26 #[.slice A n c] ∧ Bx W (w.heap.size + 1) 26 #[.slice A' n c'] ∧ Below w.heap.size w W) := ⟨0, rfl, hX, hY, hB⟩
    rw [← hW] at HST
    clear hW hX hY hB hl hl' hl1 hl2 W
    go_enter Try.func62, Try.ntmps62
    go_wp2
    go_loopw [16] (fun i wr => Hid (∃ k : Nat, k ≤ n ∧ i = .int .i64 k ∧ Hid (decide (rows.drop k = rows'.drop k) = decide (rows = rows')) ∧ Bx wr w.heap.size 26 #[.slice A n c] ∧ Bx wr (w.heap.size + 1) 26 #[.slice A' n c'] ∧ Below w.heap.size w wr)) (fun i _ => n - (intOf i).toNat)
    case atStart =>
      obtain ⟨_, _, h1, h2, h3⟩ := HST.out
      exact hid ⟨0, Nat.zero_le _, rfl, hst, h1, h2, h3⟩
    case round =>
    clear HST
    obtain ⟨k, hk, rfl, he, hX, hY, hb0⟩ := hrel.out
    clear hrel
    have hz := hb0.size
    have hx1 := hX.lt
    have hy1 := hY.lt
    have x0 : wr.cell? ⟨w.heap.size, 0, none⟩ = some (.slice A n c) := hX.cell 0
    have y0 : wr.cell? ⟨w.heap.size + 1, 0, none⟩ = some (.slice A' n c') := hY.cell 0
    by_cases hlt : k < n
    · obtain ⟨b, off, row, Ai, ci, rfl, hb, hx, hd, hc, hrd⟩ := (h.below hb0 (Nat.le_refl _)).at_ hlt
      obtain ⟨b', off', row', Ai', ci', rfl, hb', hx', hd', hc', hrd'⟩ := (h'.below hb0 (Nat.le_refl _)).at_ hlt
      have hr1 := HL1.out row (List.mem_of_getElem? hx)
      have hr2 := HL2.out row' (List.mem_of_getElem? hx')
      have HE := hid (fun (w1 : World) (q : Below wr.heap.size wr w1) => sameNums_any Ai Ai' row.length row'.length ci ci' row row' w1 hr1 hr2 ((hrd.below q hz).more (Nat.le_trans hz q.size)) ((hrd'.below q hz).more (Nat.le_trans hz q.size)))
      by_cases hxx : row = row'
      · have HZ : Hid (decide (rows.drop (k + 1) = rows'.drop (k + 1)) = decide (rows = rows')) := by
          show _ = _
          rw [← he.out, hd, hd', hxx]; simp
        have HT : Hid (decide (row = row') = true) := decide_eq_true hxx
        have HX := hid hX
        have HY := hid hY
        clear hx hx' hd hd' he h h' hb hb' hxx hrd hrd' hst hX hY hr1 hr2
        go_wp2
        go_still_tail 10, (by kernel_rfl)
        change wpList _ _ _ _ _ wr.drew
        have hb1 : Below w.heap.size w wr.drew := hb0.drew
        have hX1 := hid (HX.out.drew)
        have hY1 := hid (HY.out.drew)
        have hq : Below wr.heap.size wr wr.drew := (Below.refl _ _).drew
        have hzz : wr.heap.size = wr.drew.heap.size := rfl
        have HQ := hid hzz
        clear hzz x0 y0 hc hc' HX HY
        generalize wr.drew = w2 at *
        go_wp2_with (go_at_call 124; refine (HE.out _ hq).mono ?_; rw [HT.out]; rintro e w3 ⟨rfl, hb2⟩)
        have hzq := HQ.out
        have hxq : w.heap.size < w2.heap.size := hX1.out.lt
        have hyq : w.heap.size + 1 < w2.heap.size := hY1.out.lt
        go_roundw
        case rel => exact hid ⟨k + 1, by omega, by go_num, HZ, hX1.out.below hb2 hxq, hY1.out.below hb2 hyq, hb1.trans (hb2.mono (by omega))⟩
        case measure => simp [intOf]; omega
      · have HZ : Hid (decide (rows = rows') = false) := by
          show _ = _
          rw [← he.out, hd, hd']; simp [hxx]
        have HT : Hid (decide (row = row') = false) := decide_eq_false hxx
        clear hx hx' hd hd' he h h' hb hb' hxx hrd hrd' hst hX hY hr1 hr2
        go_wp2
        go_still_tail 10, (by kernel_rfl)
        change wpList _ _ _ _ _ wr.drew
        have hb1 : Below w.heap.size w wr.drew := hb0.drew
        have hq : Below wr.heap.size wr wr.drew := (Below.refl _ _).drew
        have hzz : wr.heap.size = wr.drew.heap.size := rfl
        have HQ := hid hzz
        clear hzz x0 y0 hc hc'
        generalize wr.drew = w2 at *
        go_wp2_with (go_at_call 124; refine (HE.out _ hq).mono ?_; rw [HT.out]; rintro e w3 ⟨rfl, hb2⟩)
        go_ret
        exact ⟨ret_bool HZ.out.symm, hb1.trans (hb2.mono (by have := HQ.out; omega))⟩
    · have HZ : Hid (decide (rows = rows') = true) := by
        show _ = _
        have e1 := h.len
        have e2 := h'.len
        rw [← he.out, List.drop_eq_nil_of_le (by omega), List.drop_eq_nil_of_le (by omega)]; rfl
      clear he hst h h' hX hY
      go_wp2
      go_ret
      exact ⟨ret_bool HZ.out.symm, hb0⟩
  · have HZ : Hid (decide (rows = rows') = false) := by
      show _ = _
      refine decide_eq_false fun e => hnn ?_
      rw [← hl1, ← hl2, e]
    clear hl1 hl2 h h' hl hl' hX hY hB hW HL1 HL2 W
    go_enter Try.func62, Try.ntmps62
    go_wp2
    go_ret
    exact ⟨ret_bool HZ.out.symm, (by repeat' (first | exact Below.refl _ _ | (with_reducible assumption) | (with_reducible refine Below.alloc ?_ ?_ _) | (with_reducible refine Below.setCell ?_ ?_ _) | (with_reducible refine Below.drew ?_) | (with_reducible refine below_drewN ?_ _) | (refine Below.trans ?_ (Below.mono (by assumption) ?_)) | (with_reducible exact Nat.le_refl _) | (with_reducible assumption) | (exact Below.size (by assumption)) | omega | go_size | (simp at *; omega)))⟩
end Go.Proofs.Ytlbhfjbbkkkldaa

/- Contracts of the laws' own helpers f6big and f6ints. -/
namespace Go.Proofs.Ytlbhfjbbkkkldaa
open Go.RowKit
set_option linter.unusedVariables false

theorem f6big_any (A : Option Addr) (n c : Nat) (w : World) (hn : n ≤ 9223372036854775807) :
    Calls Try.prog 9 #[.slice A n c] w fun e w' => e = .returned (.bool (decide (4096 < n))) ∧ w = w' := by
  go_enter Try.func9, Try.ntmps9
  go_wp2
  go_ret
  exact ⟨ret_bool (by first | (simp; done) | (rw [Bool.eq_iff_iff]; simp; omega)), rfl⟩
theorem f6ints_any (A A' : Option Addr) (n n' c c' : Nat) (xs ys : List Int) (w : World) (hn : n ≤ 1099511627776) (hn' : n' ≤ 1099511627776) (h : Rd w w.heap.size 1 A n (ints xs)) (h' : Rd w w.heap.size 1 A' n' (ints ys)) :
    Calls Try.prog 37 #[.slice A n c, .slice A' n' c'] w fun e w' => e = .returned (.bool (decide (xs = ys))) ∧ Below w.heap.size w w' := by
  have hl := h.len
  have hl' := h'.len
  by_cases hnn : n = n'
  · subst hnn
    have hst : Hid (decide (xs.drop 0 = ys.drop 0) = decide (xs = ys)) := rfl
    go_enter Try.func37, Try.ntmps37
    go_wp2
    go_loopw [5] (fun i wr => ∃ k : Nat, k ≤ n ∧ i = .int .i64 k ∧ Hid (decide (xs.drop k = ys.drop k) = decide (xs = ys)) ∧ Below w.heap.size w wr) (fun i _ => n - (intOf i).toNat)
    case atStart => exact ⟨0, Nat.zero_le _, rfl, hst, Below.refl _ _⟩
    case round =>
    obtain ⟨k, hk, rfl, he, hb0⟩ := hrel
    by_cases hlt : k < n
    · obtain ⟨b, off, x, rfl, hb, hx, hd, hc⟩ := (h.below hb0 (Nat.le_refl _)).at_ hlt
      obtain ⟨b', off', x', rfl, hb', hx', hd', hc'⟩ := (h'.below hb0 (Nat.le_refl _)).at_ hlt
      by_cases hxx : x = x'
      · have hq : (x != x') = false := by simp [hxx]
        have HZ : Hid (decide (xs.drop (k + 1) = ys.drop (k + 1)) = decide (xs = ys)) := by
          show _ = _
          rw [← he.out, hd, hd', hxx]; simp
        clear hx hx' hd hd' he hst h h' hb hb' hl hl' hxx
        go_wp2
        go_quiet (fail)
        go_wp2
        go_roundw
        case rel => exact ⟨k + 1, by omega, by go_num, HZ, (by repeat' (first | exact Below.refl _ _ | (with_reducible assumption) | (with_reducible refine Below.alloc ?_ ?_ _) | (with_reducible refine Below.setCell ?_ ?_ _) | (with_reducible refine Below.drew ?_) | (with_reducible refine below_drewN ?_ _) | (refine Below.trans ?_ (Below.mono (by assumption) ?_)) | (with_reducible exact Nat.le_refl _) | (with_reducible assumption) | (exact Below.size (by assumption)) | omega | go_size | (simp at *; omega)))⟩
        case measure => simp [intOf]; omega
      · have hq : (x != x') = true := by simpa using hxx
        have HZ : Hid (decide (xs = ys) = false) := by
          show _ = _
          rw [← he.out, hd, hd']; simp [hxx]
        clear hx hx' hd hd' he hst h h' hb hb' hl hl' hxx
        go_wp2
        go_quiet (fail)
        go_wp2
        go_ret
        exact ⟨ret_bool HZ.out.symm, (by repeat' (first | exact Below.refl _ _ | (with_reducible assumption) | (with_reducible refine Below.alloc ?_ ?_ _) | (with_reducible refine Below.setCell ?_ ?_ _) | (with_reducible refine Below.drew ?_) | (with_reducible refine below_drewN ?_ _) | (refine Below.trans ?_ (Below.mono (by assumption) ?_)) | (with_reducible exact Nat.le_refl _) | (with_reducible assumption) | (exact Below.size (by assumption)) | omega | go_size | (simp at *; omega)))⟩
    · have HZ : Hid (decide (xs = ys) = true) := by
        show _ = _
        rw [← he.out, List.drop_eq_nil_of_le (by omega), List.drop_eq_nil_of_le (by omega)]; rfl
      clear he hst hl hl' h h'
      go_wp2
      go_ret
      exact ⟨ret_bool HZ.out.symm, (by repeat' (first | exact Below.refl _ _ | (with_reducible assumption) | (with_reducible refine Below.alloc ?_ ?_ _) | (with_reducible refine Below.setCell ?_ ?_ _) | (with_reducible refine Below.drew ?_) | (with_reducible refine below_drewN ?_ _) | (refine Below.trans ?_ (Below.mono (by assumption) ?_)) | (with_reducible exact Nat.le_refl _) | (with_reducible assumption) | (exact Below.size (by assumption)) | omega | go_size | (simp at *; omega)))⟩
  · have HZ : Hid (decide (xs = ys) = false) := by
      show _ = _
      refine decide_eq_false fun e => hnn ?_
      rw [← hl, ← hl', e]
    clear hl hl' h h'
    go_enter Try.func37, Try.ntmps37
    go_wp2
    go_ret
    exact ⟨ret_bool HZ.out.symm, (by repeat' (first | exact Below.refl _ _ | (with_reducible assumption) | (with_reducible refine Below.alloc ?_ ?_ _) | (with_reducible refine Below.setCell ?_ ?_ _) | (with_reducible refine Below.drew ?_) | (with_reducible refine below_drewN ?_ _) | (refine Below.trans ?_ (Below.mono (by assumption) ?_)) | (with_reducible exact Nat.le_refl _) | (with_reducible assumption) | (exact Below.size (by assumption)) | omega | go_size | (simp at *; omega)))⟩
end Go.Proofs.Ytlbhfjbbkkkldaa

/- The walk of the law FnSingles. -/
namespace Go.Proofs.Ytlbhfjbbkkkldaa
open Go.RowKit
set_option linter.unusedVariables false

theorem same_rows {p : List (List Int)} : decide (p = p) = true := decide_eq_true rfl
set_option maxRecDepth 100000 in
set_option maxHeartbeats 8000000 in
theorem fnSingles_main (w : World) (A : Option Addr) (n c : Nat) (xs : List Int) (hK : Came .u8 w A n c xs) (hl : n ≤ 4096) :
    Calls Try.prog 7 #[.slice A n c] w fun e w' => e = .returned (.bool true) ∧ Below w.heap.size w w' := by
  have hq : decide (4096 < n) = false := by simp; omega
  have hL := f6big_any A n c w (by omega)
  rw [hq] at hL
  have hL := hid hL
  have hR := hid (fun (w1 : World) (b : Below w.heap.size w w1) => ((Rd.of_came hK).below b (Nat.le_refl _)).more b.size)
  have hX := hid hK.bytes
  have HB : Hid (Below w.heap.size w w) := Below.refl _ _
  clear hK hq
  go_enter Try.func7, Try.ntmps7
  go_wp2_with (go_at_call 9; refine (hL.out).mono ?_; rintro e w' ⟨rfl, rfl⟩)
  refine (DrawMultiOf_any A n c xs _ (by omega) hX.out (hR.out _ HB.out)).mono ?_
  rintro e w1 ⟨⟨A1, c1, p, rfl, hp1, ho1⟩, hb1⟩
  have R1 := hid (Rd.of_own ho1)
  clear ho1 hL
  have HB := hid (bchain HB.out hb1)
  clear hb1
  obtain ⟨⟨s, bad⟩, hs⟩ : ∃ x, rMultiOf p = x := ⟨_, rfl⟩
  have HS := hid hs
  have HSL := hid (rMo_bd hs)
  have HSN : Hid (s.length ≤ 1099511627776) := by have := HSL.out.1; show _ ≤ _; omega
  have HSR : Hid (∀ r ∈ s, r.length ≤ 1099511627776) := fun r hr => by have := HSL.out.2 r hr; omega
  clear hs
  have hC := MultiOf_any A1 p.length c1 p w1 (by omega) R1.out
  rw [HS.out] at hC
  replace hC := hid hC
  go_wp2_with fail
  refine (hC.out).mono ?_
  rintro e w2 ⟨⟨A2, c2, rfl, ho2⟩, hb2⟩
  clear hC
  simp only at ho2
  have HO2 := hid ho2.read
  clear ho2
  have R1 := hid ((R1.out.below hb2 (Nat.le_refl _)).more hb2.size)
  have HB := hid (bchain HB.out hb2)
  have hal : Below w2.heap.size w2 (w2.alloc (Obj.cells #[.slice A2 s.length c2] 26)) := (by repeat' (first | exact Below.refl _ _ | (with_reducible assumption) | (with_reducible refine Below.alloc ?_ ?_ _) | (with_reducible refine Below.setCell ?_ ?_ _) | (with_reducible refine Below.drew ?_) | (with_reducible refine below_drewN ?_ _) | (refine Below.trans ?_ (Below.mono (by assumption) ?_)) | (with_reducible exact Nat.le_refl _) | (with_reducible assumption) | (exact Below.size (by assumption)) | omega | go_size | (simp at *; omega)))
  have R1 := hid ((R1.out.below hal (Nat.le_refl _)).more hal.size)
  have X2 := hid (Bx.new w2 26 #[.slice A2 s.length c2])
  have M2 := hid ((HO2.out.below hal (Nat.le_refl _)).more hal.size)
  have HB := hid (bchain HB.out hal)
  clear hal
  clear hb2
  clear HO2
  have hC := specMultiOf_any A1 p.length c1 p (w2.alloc (Obj.cells #[.slice A2 s.length c2] 26)) (by omega) R1.out
  rw [HS.out] at hC
  replace hC := hid hC
  go_wp2_with fail
  refine (hC.out).mono ?_
  rintro e w3 ⟨⟨A3, c3, rfl, ho3⟩, hb3⟩
  try clear l2
  try clear x2
  clear hC
  simp only at ho3
  have HO3 := hid ho3.read
  clear ho3
  have X2 := hid (X2.out.below hb3 X2.out.lt)
  have M2 := hid ((M2.out.below hb3 (Nat.le_refl _)).more hb3.size)
  have R1 := hid ((R1.out.below hb3 (Nat.le_refl _)).more hb3.size)
  have HB := hid (bchain HB.out hb3)
  have l2 : w2.heap.size < w3.heap.size := X2.out.lt
  have x2 : w3.cell? ⟨w2.heap.size, 0, none⟩ = some (.slice A2 s.length c2) := bx_c0 X2.out
  have hal : Below w3.heap.size w3 (w3.alloc (Obj.cells #[.slice A3 s.length c3] 26)) := (by repeat' (first | exact Below.refl _ _ | (with_reducible assumption) | (with_reducible refine Below.alloc ?_ ?_ _) | (with_reducible refine Below.setCell ?_ ?_ _) | (with_reducible refine Below.drew ?_) | (with_reducible refine below_drewN ?_ _) | (refine Below.trans ?_ (Below.mono (by assumption) ?_)) | (with_reducible exact Nat.le_refl _) | (with_reducible assumption) | (exact Below.size (by assumption)) | omega | go_size | (simp at *; omega)))
  have X2 := hid (X2.out.alloc (Obj.cells #[.slice A3 s.length c3] 26))
  have M2 := hid ((M2.out.below hal (Nat.le_refl _)).more hal.size)
  have R1 := hid ((R1.out.below hal (Nat.le_refl _)).more hal.size)
  have X3 := hid (Bx.new w3 26 #[.slice A3 s.length c3])
  have M3 := hid ((HO3.out.below hal (Nat.le_refl _)).more hal.size)
  have HB := hid (bchain HB.out hal)
  clear hal
  clear hb3
  clear HO3
  go_wp2_with fail
  refine (DrawSingleOf_any A n c xs _ (by omega) hX.out (hR.out _ HB.out)).mono ?_
  rintro e w4 ⟨⟨A4, n4, c4, rfl, m, hm4, hn4, hr4⟩, hb4⟩
  try clear l2 l3
  try clear x2 x3
  have HL4 : Hid (∀ r ∈ m, r.length ≤ 1099511627776) := fun r hr => by have := hr4 r hr; omega
  have HM4 := hid hm4.rd
  clear hm4 hr4
  have X2 := hid (X2.out.below hb4 X2.out.lt)
  have X3 := hid (X3.out.below hb4 X3.out.lt)
  have M2 := hid ((M2.out.below hb4 (Nat.le_refl _)).more hb4.size)
  have M3 := hid ((M3.out.below hb4 (Nat.le_refl _)).more hb4.size)
  have R1 := hid ((R1.out.below hb4 (Nat.le_refl _)).more hb4.size)
  have HB := hid (bchain HB.out hb4)
  have l2 : w2.heap.size < w4.heap.size := X2.out.lt
  have x2 : w4.cell? ⟨w2.heap.size, 0, none⟩ = some (.slice A2 s.length c2) := bx_c0 X2.out
  have l3 : w3.heap.size < w4.heap.size := X3.out.lt
  have x3 : w4.cell? ⟨w3.heap.size, 0, none⟩ = some (.slice A3 s.length c3) := bx_c0 X3.out
  have hal : Below w4.heap.size w4 (w4.alloc (Obj.cells #[.slice A4 n4 c4] 26)) := (by repeat' (first | exact Below.refl _ _ | (with_reducible assumption) | (with_reducible refine Below.alloc ?_ ?_ _) | (with_reducible refine Below.setCell ?_ ?_ _) | (with_reducible refine Below.drew ?_) | (with_reducible refine below_drewN ?_ _) | (refine Below.trans ?_ (Below.mono (by assumption) ?_)) | (with_reducible exact Nat.le_refl _) | (with_reducible assumption) | (exact Below.size (by assumption)) | omega | go_size | (simp at *; omega)))
  have X2 := hid (X2.out.alloc (Obj.cells #[.slice A4 n4 c4] 26))
  have X3 := hid (X3.out.alloc (Obj.cells #[.slice A4 n4 c4] 26))
  have M2 := hid ((M2.out.below hal (Nat.le_refl _)).more hal.size)
  have M3 := hid ((M3.out.below hal (Nat.le_refl _)).more hal.size)
  have R1 := hid ((R1.out.below hal (Nat.le_refl _)).more hal.size)
  have X4 := hid (Bx.new w4 26 #[.slice A4 n4 c4])
  have M4 := hid ((HM4.out.below hal (Nat.le_refl _)).more hal.size)
  have HB := hid (bchain HB.out hal)
  clear hal
  clear hb4
  clear HM4
  have HLM := hid M4.out.len
  obtain ⟨⟨sg, one⟩, hsg⟩ : ∃ x, rSingleOf m = x := ⟨_, rfl⟩
  have HSG := hid hsg
  have HSGn : Hid (sg.length ≤ 1099511627776) := by have := rSg_bd hsg; have := HLM.out; show _ ≤ _; omega
  clear hsg
  have hC := SingleOf_any A4 n4 c4 m (w4.alloc (Obj.cells #[.slice A4 n4 c4] 26)) (by omega) HL4.out M4.out
  rw [HSG.out] at hC
  replace hC := hid hC
  go_wp2_with fail
  refine (hC.out).mono ?_
  rintro e w5 ⟨⟨A5, c5, rfl, ho5⟩, hb5⟩
  try clear l2 l3 l4
  try clear x2 x3 x4
  clear hC
  simp only at ho5
  have R5 := hid (Rd.of_own ho5)
  clear ho5
  have X2 := hid (X2.out.below hb5 X2.out.lt)
  have X3 := hid (X3.out.below hb5 X3.out.lt)
  have X4 := hid (X4.out.below hb5 X4.out.lt)
  have M2 := hid ((M2.out.below hb5 (Nat.le_refl _)).more hb5.size)
  have M3 := hid ((M3.out.below hb5 (Nat.le_refl _)).more hb5.size)
  have M4 := hid ((M4.out.below hb5 (Nat.le_refl _)).more hb5.size)
  have R1 := hid ((R1.out.below hb5 (Nat.le_refl _)).more hb5.size)
  have HB := hid (bchain HB.out hb5)
  have l2 : w2.heap.size < w5.heap.size := X2.out.lt
  have x2 : w5.cell? ⟨w2.heap.size, 0, none⟩ = some (.slice A2 s.length c2) := bx_c0 X2.out
  have l3 : w3.heap.size < w5.heap.size := X3.out.lt
  have x3 : w5.cell? ⟨w3.heap.size, 0, none⟩ = some (.slice A3 s.length c3) := bx_c0 X3.out
  have l4 : w4.heap.size < w5.heap.size := X4.out.lt
  have x4 : w5.cell? ⟨w4.heap.size, 0, none⟩ = some (.slice A4 n4 c4) := bx_c0 X4.out
  clear hb5
  have hC := specSingleOf_any A4 n4 c4 m w5 (by omega) HL4.out M4.out
  rw [HSG.out] at hC
  replace hC := hid hC
  go_wp2_with fail
  refine (hC.out).mono ?_
  rintro e w6 ⟨⟨A6, c6, rfl, ho6⟩, hb6⟩
  try clear l2 l3 l4
  try clear x2 x3 x4
  clear hC
  simp only at ho6
  have R6 := hid (Rd.of_own ho6)
  clear ho6
  have X2 := hid (X2.out.below hb6 X2.out.lt)
  have X3 := hid (X3.out.below hb6 X3.out.lt)
  have X4 := hid (X4.out.below hb6 X4.out.lt)
  have M2 := hid ((M2.out.below hb6 (Nat.le_refl _)).more hb6.size)
  have M3 := hid ((M3.out.below hb6 (Nat.le_refl _)).more hb6.size)
  have M4 := hid ((M4.out.below hb6 (Nat.le_refl _)).more hb6.size)
  have R1 := hid ((R1.out.below hb6 (Nat.le_refl _)).more hb6.size)
  have R5 := hid ((R5.out.below hb6 (Nat.le_refl _)).more hb6.size)
  have HB := hid (bchain HB.out hb6)
  have l2 : w2.heap.size < w6.heap.size := X2.out.lt
  have x2 : w6.cell? ⟨w2.heap.size, 0, none⟩ = some (.slice A2 s.length c2) := bx_c0 X2.out
  have l3 : w3.heap.size < w6.heap.size := X3.out.lt
  have x3 : w6.cell? ⟨w3.heap.size, 0, none⟩ = some (.slice A3 s.length c3) := bx_c0 X3.out
  have l4 : w4.heap.size < w6.heap.size := X4.out.lt
  have x4 : w6.cell? ⟨w4.heap.size, 0, none⟩ = some (.slice A4 n4 c4) := bx_c0 X4.out
  clear hb6
  go_wp2_with fail
  refine (DrawRotateMulti_any A n c xs _ (by omega) hX.out (hR.out _ HB.out)).mono ?_
  rintro e w7 ⟨⟨A7, n7, c7, by_, rfl, hby, r, hm7, hn7, hr7⟩, hb7⟩
  try clear l2 l3 l4
  try clear x2 x3 x4
  have HL7 := hid (fun (r9 : List Int) (hr9 : r9 ∈ r) => show r9.length ≤ 1000 from by have := hr7 r9 hr9; omega)
  have HR7 := hid hr7
  have HM7 := hid hm7.rd
  clear hm7 hr7
  have X2 := hid (X2.out.below hb7 X2.out.lt)
  have X3 := hid (X3.out.below hb7 X3.out.lt)
  have X4 := hid (X4.out.below hb7 X4.out.lt)
  have M2 := hid ((M2.out.below hb7 (Nat.le_refl _)).more hb7.size)
  have M3 := hid ((M3.out.below hb7 (Nat.le_refl _)).more hb7.size)
  have M4 := hid ((M4.out.below hb7 (Nat.le_refl _)).more hb7.size)
  have R1 := hid ((R1.out.below hb7 (Nat.le_refl _)).more hb7.size)
  have R5 := hid ((R5.out.below hb7 (Nat.le_refl _)).more hb7.size)
  have R6 := hid ((R6.out.below hb7 (Nat.le_refl _)).more hb7.size)
  have HB := hid (bchain HB.out hb7)
  have l2 : w2.heap.size < w7.heap.size := X2.out.lt
  have x2 : w7.cell? ⟨w2.heap.size, 0, none⟩ = some (.slice A2 s.length c2) := bx_c0 X2.out
  have l3 : w3.heap.size < w7.heap.size := X3.out.lt
  have x3 : w7.cell? ⟨w3.heap.size, 0, none⟩ = some (.slice A3 s.length c3) := bx_c0 X3.out
  have l4 : w4.heap.size < w7.heap.size := X4.out.lt
  have x4 : w7.cell? ⟨w4.heap.size, 0, none⟩ = some (.slice A4 n4 c4) := bx_c0 X4.out
  have hal : Below w7.heap.size w7 (w7.alloc (Obj.cells #[.slice A7 n7 c7] 26)) := (by repeat' (first | exact Below.refl _ _ | (with_reducible assumption) | (with_reducible refine Below.alloc ?_ ?_ _) | (with_reducible refine Below.setCell ?_ ?_ _) | (with_reducible refine Below.drew ?_) | (with_reducible refine below_drewN ?_ _) | (refine Below.trans ?_ (Below.mono (by assumption) ?_)) | (with_reducible exact Nat.le_refl _) | (with_reducible assumption) | (exact Below.size (by assumption)) | omega | go_size | (simp at *; omega)))
  have X2 := hid (X2.out.alloc (Obj.cells #[.slice A7 n7 c7] 26))
  have X3 := hid (X3.out.alloc (Obj.cells #[.slice A7 n7 c7] 26))
  have X4 := hid (X4.out.alloc (Obj.cells #[.slice A7 n7 c7] 26))
  have M2 := hid ((M2.out.below hal (Nat.le_refl _)).more hal.size)
  have M3 := hid ((M3.out.below hal (Nat.le_refl _)).more hal.size)
  have M4 := hid ((M4.out.below hal (Nat.le_refl _)).more hal.size)
  have R1 := hid ((R1.out.below hal (Nat.le_refl _)).more hal.size)
  have R5 := hid ((R5.out.below hal (Nat.le_refl _)).more hal.size)
  have R6 := hid ((R6.out.below hal (Nat.le_refl _)).more hal.size)
  have X7 := hid (Bx.new w7 26 #[.slice A7 n7 c7])
  have M7 := hid ((HM7.out.below hal (Nat.le_refl _)).more hal.size)
  have HB := hid (bchain HB.out hal)
  clear hal
  clear hb7
  clear HM7
  have HLR := hid M7.out.len
  obtain ⟨⟨yy, three⟩, hyy⟩ : ∃ x, rRotate r by_ = x := ⟨_, rfl⟩
  have HYY := hid hyy
  have HYB := hid (rRo_bd hyy HR7.out)
  have HYN : Hid (yy.length ≤ 1000) := by have := HYB.out.1; have := HLR.out; show _ ≤ _; omega
  have HYR : Hid (∀ r ∈ yy, r.length ≤ 1000) := fun r hr => by have := HYB.out.2 r hr; omega
  have HYN2 : Hid (yy.length ≤ 1099511627776) := by have := HYN.out; show _ ≤ _; omega
  have HYR2 : Hid (∀ r ∈ yy, r.length ≤ 1099511627776) := fun r hr => by have := HYR.out r hr; omega
  have HBY := hid hby
  clear hyy hby
  have hC := RotateMulti_any A7 n7 c7 r by_ (w7.alloc (Obj.cells #[.slice A7 n7 c7] 26)) HBY.out (by omega) HL7.out M7.out
  rw [HYY.out] at hC
  replace hC := hid hC
  go_wp2_with fail
  refine (hC.out).mono ?_
  rintro e w8 ⟨⟨A8, c8, rfl, ho8⟩, hb8⟩
  try clear l2 l3 l4 l7
  try clear x2 x3 x4 x7
  clear hC
  simp only at ho8
  have HO8 := hid ho8.read
  clear ho8
  have X2 := hid (X2.out.below hb8 X2.out.lt)
  have X3 := hid (X3.out.below hb8 X3.out.lt)
  have X4 := hid (X4.out.below hb8 X4.out.lt)
  have X7 := hid (X7.out.below hb8 X7.out.lt)
  have M2 := hid ((M2.out.below hb8 (Nat.le_refl _)).more hb8.size)
  have M3 := hid ((M3.out.below hb8 (Nat.le_refl _)).more hb8.size)
  have M4 := hid ((M4.out.below hb8 (Nat.le_refl _)).more hb8.size)
  have M7 := hid ((M7.out.below hb8 (Nat.le_refl _)).more hb8.size)
  have R1 := hid ((R1.out.below hb8 (Nat.le_refl _)).more hb8.size)
  have R5 := hid ((R5.out.below hb8 (Nat.le_refl _)).more hb8.size)
  have R6 := hid ((R6.out.below hb8 (Nat.le_refl _)).more hb8.size)
  have HB := hid (bchain HB.out hb8)
  have l2 : w2.heap.size < w8.heap.size := X2.out.lt
  have x2 : w8.cell? ⟨w2.heap.size, 0, none⟩ = some (.slice A2 s.length c2) := bx_c0 X2.out
  have l3 : w3.heap.size < w8.heap.size := X3.out.lt
  have x3 : w8.cell? ⟨w3.heap.size, 0, none⟩ = some (.slice A3 s.length c3) := bx_c0 X3.out
  have l4 : w4.heap.size < w8.heap.size := X4.out.lt
  have x4 : w8.cell? ⟨w4.heap.size, 0, none⟩ = some (.slice A4 n4 c4) := bx_c0 X4.out
  have l7 : w7.heap.size < w8.heap.size := X7.out.lt
  have x7 : w8.cell? ⟨w7.heap.size, 0, none⟩ = some (.slice A7 n7 c7) := bx_c0 X7.out
  have hal : Below w8.heap.size w8 (w8.alloc (Obj.cells #[.slice A8 yy.length c8] 26)) := (by repeat' (first | exact Below.refl _ _ | (with_reducible assumption) | (with_reducible refine Below.alloc ?_ ?_ _) | (with_reducible refine Below.setCell ?_ ?_ _) | (with_reducible refine Below.drew ?_) | (with_reducible refine below_drewN ?_ _) | (refine Below.trans ?_ (Below.mono (by assumption) ?_)) | (with_reducible exact Nat.le_refl _) | (with_reducible assumption) | (exact Below.size (by assumption)) | omega | go_size | (simp at *; omega)))
  have X2 := hid (X2.out.alloc (Obj.cells #[.slice A8 yy.length c8] 26))
  have X3 := hid (X3.out.alloc (Obj.cells #[.slice A8 yy.length c8] 26))
  have X4 := hid (X4.out.alloc (Obj.cells #[.slice A8 yy.length c8] 26))
  have X7 := hid (X7.out.alloc (Obj.cells #[.slice A8 yy.length c8] 26))
  have M2 := hid ((M2.out.below hal (Nat.le_refl _)).more hal.size)
  have M3 := hid ((M3.out.below hal (Nat.le_refl _)).more hal.size)
  have M4 := hid ((M4.out.below hal (Nat.le_refl _)).more hal.size)
  have M7 := hid ((M7.out.below hal (Nat.le_refl _)).more hal.size)
  have R1 := hid ((R1.out.below hal (Nat.le_refl _)).more hal.size)
  have R5 := hid ((R5.out.below hal (Nat.le_refl _)).more hal.size)
  have R6 := hid ((R6.out.below hal (Nat.le_refl _)).more hal.size)
  have X8 := hid (Bx.new w8 26 #[.slice A8 yy.length c8])
  have M8 := hid ((HO8.out.below hal (Nat.le_refl _)).more hal.size)
  have HB := hid (bchain HB.out hal)
  clear hal
  clear hb8
  clear HO8
  have hC := specRotateMulti_any A7 n7 c7 r by_ (w8.alloc (Obj.cells #[.slice A8 yy.length c8] 26)) HBY.out (by omega) HL7.out M7.out
  rw [HYY.out] at hC
  replace hC := hid hC
  go_wp2_with fail
  refine (hC.out).mono ?_
  rintro e w9 ⟨⟨A9, c9, rfl, ho9⟩, hb9⟩
  try clear l2 l3 l4 l7 l8
  try clear x2 x3 x4 x7 x8
  clear hC
  simp only at ho9
  have HO9 := hid ho9.read
  clear ho9
  have X2 := hid (X2.out.below hb9 X2.out.lt)
  have X3 := hid (X3.out.below hb9 X3.out.lt)
  have X4 := hid (X4.out.below hb9 X4.out.lt)
  have X7 := hid (X7.out.below hb9 X7.out.lt)
  have X8 := hid (X8.out.below hb9 X8.out.lt)
  have M2 := hid ((M2.out.below hb9 (Nat.le_refl _)).more hb9.size)
  have M3 := hid ((M3.out.below hb9 (Nat.le_refl _)).more hb9.size)
  have M4 := hid ((M4.out.below hb9 (Nat.le_refl _)).more hb9.size)
  have M7 := hid ((M7.out.below hb9 (Nat.le_refl _)).more hb9.size)
  have M8 := hid ((M8.out.below hb9 (Nat.le_refl _)).more hb9.size)
  have R1 := hid ((R1.out.below hb9 (Nat.le_refl _)).more hb9.size)
  have R5 := hid ((R5.out.below hb9 (Nat.le_refl _)).more hb9.size)
  have R6 := hid ((R6.out.below hb9 (Nat.le_refl _)).more hb9.size)
  have HB := hid (bchain HB.out hb9)
  have l2 : w2.heap.size < w9.heap.size := X2.out.lt
  have x2 : w9.cell? ⟨w2.heap.size, 0, none⟩ = some (.slice A2 s.length c2) := bx_c0 X2.out
  have l3 : w3.heap.size < w9.heap.size := X3.out.lt
  have x3 : w9.cell? ⟨w3.heap.size, 0, none⟩ = some (.slice A3 s.length c3) := bx_c0 X3.out
  have l4 : w4.heap.size < w9.heap.size := X4.out.lt
  have x4 : w9.cell? ⟨w4.heap.size, 0, none⟩ = some (.slice A4 n4 c4) := bx_c0 X4.out
  have l7 : w7.heap.size < w9.heap.size := X7.out.lt
  have x7 : w9.cell? ⟨w7.heap.size, 0, none⟩ = some (.slice A7 n7 c7) := bx_c0 X7.out
  have l8 : w8.heap.size < w9.heap.size := X8.out.lt
  have x8 : w9.cell? ⟨w8.heap.size, 0, none⟩ = some (.slice A8 yy.length c8) := bx_c0 X8.out
  have hal : Below w9.heap.size w9 (w9.alloc (Obj.cells #[.slice A9 yy.length c9] 26)) := (by repeat' (first | exact Below.refl _ _ | (with_reducible assumption) | (with_reducible refine Below.alloc ?_ ?_ _) | (with_reducible refine Below.setCell ?_ ?_ _) | (with_reducible refine Below.drew ?_) | (with_reducible refine below_drewN ?_ _) | (refine Below.trans ?_ (Below.mono (by assumption) ?_)) | (with_reducible exact Nat.le_refl _) | (with_reducible assumption) | (exact Below.size (by assumption)) | omega | go_size | (simp at *; omega)))
  have X2 := hid (X2.out.alloc (Obj.cells #[.slice A9 yy.length c9] 26))
  have X3 := hid (X3.out.alloc (Obj.cells #[.slice A9 yy.length c9] 26))
  have X4 := hid (X4.out.alloc (Obj.cells #[.slice A9 yy.length c9] 26))
  have X7 := hid (X7.out.alloc (Obj.cells #[.slice A9 yy.length c9] 26))
  have X8 := hid (X8.out.alloc (Obj.cells #[.slice A9 yy.length c9] 26))
  have M2 := hid ((M2.out.below hal (Nat.le_refl _)).more hal.size)
  have M3 := hid ((M3.out.below hal (Nat.le_refl _)).more hal.size)
  have M4 := hid ((M4.out.below hal (Nat.le_refl _)).more hal.size)
  have M7 := hid ((M7.out.below hal (Nat.le_refl _)).more hal.size)
  have M8 := hid ((M8.out.below hal (Nat.le_refl _)).more hal.size)
  have R1 := hid ((R1.out.below hal (Nat.le_refl _)).more hal.size)
  have R5 := hid ((R5.out.below hal (Nat.le_refl _)).more hal.size)
  have R6 := hid ((R6.out.below hal (Nat.le_refl _)).more hal.size)
  have X9 := hid (Bx.new w9 26 #[.slice A9 yy.length c9])
  have M9 := hid ((HO9.out.below hal (Nat.le_refl _)).more hal.size)
  have HB := hid (bchain HB.out hal)
  clear hal
  clear hb9
  clear HO9
  go_wp2_with fail
  refine (DrawSortBeat_any A n c xs _ (by omega) hX.out (hR.out _ HB.out)).mono ?_
  rintro e w10 ⟨⟨A10, c10, l, rfl, hp10, ho10⟩, hb10⟩
  try clear l2 l3 l4 l7 l8 l9
  try clear x2 x3 x4 x7 x8 x9
  have R10 := hid (Rd.of_own ho10)
  clear ho10
  have X2 := hid (X2.out.below hb10 X2.out.lt)
  have X3 := hid (X3.out.below hb10 X3.out.lt)
  have X4 := hid (X4.out.below hb10 X4.out.lt)
  have X7 := hid (X7.out.below hb10 X7.out.lt)
  have X8 := hid (X8.out.below hb10 X8.out.lt)
  have X9 := hid (X9.out.below hb10 X9.out.lt)
  have M2 := hid ((M2.out.below hb10 (Nat.le_refl _)).more hb10.size)
  have M3 := hid ((M3.out.below hb10 (Nat.le_refl _)).more hb10.size)
  have M4 := hid ((M4.out.below hb10 (Nat.le_refl _)).more hb10.size)
  have M7 := hid ((M7.out.below hb10 (Nat.le_refl _)).more hb10.size)
  have M8 := hid ((M8.out.below hb10 (Nat.le_refl _)).more hb10.size)
  have M9 := hid ((M9.out.below hb10 (Nat.le_refl _)).more hb10.size)
  have R1 := hid ((R1.out.below hb10 (Nat.le_refl _)).more hb10.size)
  have R5 := hid ((R5.out.below hb10 (Nat.le_refl _)).more hb10.size)
  have R6 := hid ((R6.out.below hb10 (Nat.le_refl _)).more hb10.size)
  have HB := hid (bchain HB.out hb10)
  have l2 : w2.heap.size < w10.heap.size := X2.out.lt
  have x2 : w10.cell? ⟨w2.heap.size, 0, none⟩ = some (.slice A2 s.length c2) := bx_c0 X2.out
  have l3 : w3.heap.size < w10.heap.size := X3.out.lt
  have x3 : w10.cell? ⟨w3.heap.size, 0, none⟩ = some (.slice A3 s.length c3) := bx_c0 X3.out
  have l4 : w4.heap.size < w10.heap.size := X4.out.lt
  have x4 : w10.cell? ⟨w4.heap.size, 0, none⟩ = some (.slice A4 n4 c4) := bx_c0 X4.out
  have l7 : w7.heap.size < w10.heap.size := X7.out.lt
  have x7 : w10.cell? ⟨w7.heap.size, 0, none⟩ = some (.slice A7 n7 c7) := bx_c0 X7.out
  have l8 : w8.heap.size < w10.heap.size := X8.out.lt
  have x8 : w10.cell? ⟨w8.heap.size, 0, none⟩ = some (.slice A8 yy.length c8) := bx_c0 X8.out
  have l9 : w9.heap.size < w10.heap.size := X9.out.lt
  have x9 : w10.cell? ⟨w9.heap.size, 0, none⟩ = some (.slice A9 yy.length c9) := bx_c0 X9.out
  clear hb10
  obtain ⟨⟨z, five⟩, hz⟩ : ∃ x, rSortBeat l = x := ⟨_, rfl⟩
  have HZ := hid hz
  have HZn : Hid (z.length ≤ 1099511627776) := by have := rSb_bd hz; show _ ≤ _; omega
  clear hz
  have hC := SortBeat_any A10 l.length c10 l w10 hp10 R10.out
  rw [HZ.out] at hC
  replace hC := hid hC
  go_wp2_with fail
  refine (hC.out).mono ?_
  rintro e w11 ⟨⟨A11, c11, rfl, ho11⟩, hb11⟩
  try clear l2 l3 l4 l7 l8 l9
  try clear x2 x3 x4 x7 x8 x9
  clear hC
  simp only at ho11
  have R11 := hid (Rd.of_own ho11)
  clear ho11
  have X2 := hid (X2.out.below hb11 X2.out.lt)
  have X3 := hid (X3.out.below hb11 X3.out.lt)
  have X4 := hid (X4.out.below hb11 X4.out.lt)
  have X7 := hid (X7.out.below hb11 X7.out.lt)
  have X8 := hid (X8.out.below hb11 X8.out.lt)
  have X9 := hid (X9.out.below hb11 X9.out.lt)
  have M2 := hid ((M2.out.below hb11 (Nat.le_refl _)).more hb11.size)
  have M3 := hid ((M3.out.below hb11 (Nat.le_refl _)).more hb11.size)
  have M4 := hid ((M4.out.below hb11 (Nat.le_refl _)).more hb11.size)
  have M7 := hid ((M7.out.below hb11 (Nat.le_refl _)).more hb11.size)
  have M8 := hid ((M8.out.below hb11 (Nat.le_refl _)).more hb11.size)
  have M9 := hid ((M9.out.below hb11 (Nat.le_refl _)).more hb11.size)
  have R1 := hid ((R1.out.below hb11 (Nat.le_refl _)).more hb11.size)
  have R5 := hid ((R5.out.below hb11 (Nat.le_refl _)).more hb11.size)
  have R6 := hid ((R6.out.below hb11 (Nat.le_refl _)).more hb11.size)
  have R10 := hid ((R10.out.below hb11 (Nat.le_refl _)).more hb11.size)
  have HB := hid (bchain HB.out hb11)
  have l2 : w2.heap.size < w11.heap.size := X2.out.lt
  have x2 : w11.cell? ⟨w2.heap.size, 0, none⟩ = some (.slice A2 s.length c2) := bx_c0 X2.out
  have l3 : w3.heap.size < w11.heap.size := X3.out.lt
  have x3 : w11.cell? ⟨w3.heap.size, 0, none⟩ = some (.slice A3 s.length c3) := bx_c0 X3.out
  have l4 : w4.heap.size < w11.heap.size := X4.out.lt
  have x4 : w11.cell? ⟨w4.heap.size, 0, none⟩ = some (.slice A4 n4 c4) := bx_c0 X4.out
  have l7 : w7.heap.size < w11.heap.size := X7.out.lt
  have x7 : w11.cell? ⟨w7.heap.size, 0, none⟩ = some (.slice A7 n7 c7) := bx_c0 X7.out
  have l8 : w8.heap.size < w11.heap.size := X8.out.lt
  have x8 : w11.cell? ⟨w8.heap.size, 0, none⟩ = some (.slice A8 yy.length c8) := bx_c0 X8.out
  have l9 : w9.heap.size < w11.heap.size := X9.out.lt
  have x9 : w11.cell? ⟨w9.heap.size, 0, none⟩ = some (.slice A9 yy.length c9) := bx_c0 X9.out
  clear hb11
  have hC := specSortBeat_any A10 l.length c10 l w11 hp10 R10.out
  rw [HZ.out] at hC
  replace hC := hid hC
  go_wp2_with fail
  refine (hC.out).mono ?_
  rintro e w12 ⟨⟨A12, c12, rfl, ho12⟩, hb12⟩
  try clear l2 l3 l4 l7 l8 l9
  try clear x2 x3 x4 x7 x8 x9
  clear hC
  simp only at ho12
  have R12 := hid (Rd.of_own ho12)
  clear ho12
  have X2 := hid (X2.out.below hb12 X2.out.lt)
  have X3 := hid (X3.out.below hb12 X3.out.lt)
  have X4 := hid (X4.out.below hb12 X4.out.lt)
  have X7 := hid (X7.out.below hb12 X7.out.lt)
  have X8 := hid (X8.out.below hb12 X8.out.lt)
  have X9 := hid (X9.out.below hb12 X9.out.lt)
  have M2 := hid ((M2.out.below hb12 (Nat.le_refl _)).more hb12.size)
  have M3 := hid ((M3.out.below hb12 (Nat.le_refl _)).more hb12.size)
  have M4 := hid ((M4.out.below hb12 (Nat.le_refl _)).more hb12.size)
  have M7 := hid ((M7.out.below hb12 (Nat.le_refl _)).more hb12.size)
  have M8 := hid ((M8.out.below hb12 (Nat.le_refl _)).more hb12.size)
  have M9 := hid ((M9.out.below hb12 (Nat.le_refl _)).more hb12.size)
  have R1 := hid ((R1.out.below hb12 (Nat.le_refl _)).more hb12.size)
  have R5 := hid ((R5.out.below hb12 (Nat.le_refl _)).more hb12.size)
  have R6 := hid ((R6.out.below hb12 (Nat.le_refl _)).more hb12.size)
  have R10 := hid ((R10.out.below hb12 (Nat.le_refl _)).more hb12.size)
  have R11 := hid ((R11.out.below hb12 (Nat.le_refl _)).more hb12.size)
  have HB := hid (bchain HB.out hb12)
  have l2 : w2.heap.size < w12.heap.size := X2.out.lt
  have x2 : w12.cell? ⟨w2.heap.size, 0, none⟩ = some (.slice A2 s.length c2) := bx_c0 X2.out
  have l3 : w3.heap.size < w12.heap.size := X3.out.lt
  have x3 : w12.cell? ⟨w3.heap.size, 0, none⟩ = some (.slice A3 s.length c3) := bx_c0 X3.out
  have l4 : w4.heap.size < w12.heap.size := X4.out.lt
  have x4 : w12.cell? ⟨w4.heap.size, 0, none⟩ = some (.slice A4 n4 c4) := bx_c0 X4.out
  have l7 : w7.heap.size < w12.heap.size := X7.out.lt
  have x7 : w12.cell? ⟨w7.heap.size, 0, none⟩ = some (.slice A7 n7 c7) := bx_c0 X7.out
  have l8 : w8.heap.size < w12.heap.size := X8.out.lt
  have x8 : w12.cell? ⟨w8.heap.size, 0, none⟩ = some (.slice A8 yy.length c8) := bx_c0 X8.out
  have l9 : w9.heap.size < w12.heap.size := X9.out.lt
  have x9 : w12.cell? ⟨w9.heap.size, 0, none⟩ = some (.slice A9 yy.length c9) := bx_c0 X9.out
  clear hb12
  go_wp2_with fail
  refine (DrawSameMulti_any A n c xs _ (by omega) hX.out (hR.out _ HB.out)).mono ?_
  rintro e w13 ⟨⟨A13, n13, c13, A14, n14, c14, rfl, ⟨a, hm13, hn13, hr13⟩, ⟨b, hm14, hn14, hr14⟩⟩, hb13⟩
  try clear l2 l3 l4 l7 l8 l9
  try clear x2 x3 x4 x7 x8 x9
  have HL13 : Hid (∀ r ∈ a, r.length ≤ 1099511627776) := fun r hr => by have := hr13 r hr; omega
  have HL14 : Hid (∀ r ∈ b, r.length ≤ 1099511627776) := fun r hr => by have := hr14 r hr; omega
  have HM13 := hid hm13.rd
  have HM14 := hid hm14.rd
  clear hm13 hr13 hm14 hr14
  have X2 := hid (X2.out.below hb13 X2.out.lt)
  have X3 := hid (X3.out.below hb13 X3.out.lt)
  have X4 := hid (X4.out.below hb13 X4.out.lt)
  have X7 := hid (X7.out.below hb13 X7.out.lt)
  have X8 := hid (X8.out.below hb13 X8.out.lt)
  have X9 := hid (X9.out.below hb13 X9.out.lt)
  have M2 := hid ((M2.out.below hb13 (Nat.le_refl _)).more hb13.size)
  have M3 := hid ((M3.out.below hb13 (Nat.le_refl _)).more hb13.size)
  have M4 := hid ((M4.out.below hb13 (Nat.le_refl _)).more hb13.size)
  have M7 := hid ((M7.out.below hb13 (Nat.le_refl _)).more hb13.size)
  have M8 := hid ((M8.out.below hb13 (Nat.le_refl _)).more hb13.size)
  have M9 := hid ((M9.out.below hb13 (Nat.le_refl _)).more hb13.size)
  have R1 := hid ((R1.out.below hb13 (Nat.le_refl _)).more hb13.size)
  have R5 := hid ((R5.out.below hb13 (Nat.le_refl _)).more hb13.size)
  have R6 := hid ((R6.out.below hb13 (Nat.le_refl _)).more hb13.size)
  have R11 := hid ((R11.out.below hb13 (Nat.le_refl _)).more hb13.size)
  have R12 := hid ((R12.out.below hb13 (Nat.le_refl _)).more hb13.size)
  have HB := hid (bchain HB.out hb13)
  have l2 : w2.heap.size < w13.heap.size := X2.out.lt
  have x2 : w13.cell? ⟨w2.heap.size, 0, none⟩ = some (.slice A2 s.length c2) := bx_c0 X2.out
  have l3 : w3.heap.size < w13.heap.size := X3.out.lt
  have x3 : w13.cell? ⟨w3.heap.size, 0, none⟩ = some (.slice A3 s.length c3) := bx_c0 X3.out
  have l4 : w4.heap.size < w13.heap.size := X4.out.lt
  have x4 : w13.cell? ⟨w4.heap.size, 0, none⟩ = some (.slice A4 n4 c4) := bx_c0 X4.out
  have l7 : w7.heap.size < w13.heap.size := X7.out.lt
  have x7 : w13.cell? ⟨w7.heap.size, 0, none⟩ = some (.slice A7 n7 c7) := bx_c0 X7.out
  have l8 : w8.heap.size < w13.heap.size := X8.out.lt
  have x8 : w13.cell? ⟨w8.heap.size, 0, none⟩ = some (.slice A8 yy.length c8) := bx_c0 X8.out
  have l9 : w9.heap.size < w13.heap.size := X9.out.lt
  have x9 : w13.cell? ⟨w9.heap.size, 0, none⟩ = some (.slice A9 yy.length c9) := bx_c0 X9.out
  have hal : Below w13.heap.size w13 (w13.alloc (Obj.cells #[.slice A13 n13 c13] 26)) := (by repeat' (first | exact Below.refl _ _ | (with_reducible assumption) | (with_reducible refine Below.alloc ?_ ?_ _) | (with_reducible refine Below.setCell ?_ ?_ _) | (with_reducible refine Below.drew ?_) | (with_reducible refine below_drewN ?_ _) | (refine Below.trans ?_ (Below.mono (by assumption) ?_)) | (with_reducible exact Nat.le_refl _) | (with_reducible assumption) | (exact Below.size (by assumption)) | omega | go_size | (simp at *; omega)))
  have X2 := hid (X2.out.alloc (Obj.cells #[.slice A13 n13 c13] 26))
  have X3 := hid (X3.out.alloc (Obj.cells #[.slice A13 n13 c13] 26))
  have X4 := hid (X4.out.alloc (Obj.cells #[.slice A13 n13 c13] 26))
  have X7 := hid (X7.out.alloc (Obj.cells #[.slice A13 n13 c13] 26))
  have X8 := hid (X8.out.alloc (Obj.cells #[.slice A13 n13 c13] 26))
  have X9 := hid (X9.out.alloc (Obj.cells #[.slice A13 n13 c13] 26))
  have M2 := hid ((M2.out.below hal (Nat.le_refl _)).more hal.size)
  have M3 := hid ((M3.out.below hal (Nat.le_refl _)).more hal.size)
  have M4 := hid ((M4.out.below hal (Nat.le_refl _)).more hal.size)
  have M7 := hid ((M7.out.below hal (Nat.le_refl _)).more hal.size)
  have M8 := hid ((M8.out.below hal (Nat.le_refl _)).more hal.size)
  have M9 := hid ((M9.out.below hal (Nat.le_refl _)).more hal.size)
  have R1 := hid ((R1.out.below hal (Nat.le_refl _)).more hal.size)
  have R5 := hid ((R5.out.below hal (Nat.le_refl _)).more hal.size)
  have R6 := hid ((R6.out.below hal (Nat.le_refl _)).more hal.size)
  have R11 := hid ((R11.out.below hal (Nat.le_refl _)).more hal.size)
  have R12 := hid ((R12.out.below hal (Nat.le_refl _)).more hal.size)
  have HM14 := hid ((HM14.out.below hal (Nat.le_refl _)).more hal.size)
  have X13 := hid (Bx.new w13 26 #[.slice A13 n13 c13])
  have M13 := hid ((HM13.out.below hal (Nat.le_refl _)).more hal.size)
  have HB := hid (bchain HB.out hal)
  clear hal
  have hal : Below (w13.alloc (Obj.cells #[.slice A13 n13 c13] 26)).heap.size (w13.alloc (Obj.cells #[.slice A13 n13 c13] 26)) ((w13.alloc (Obj.cells #[.slice A13 n13 c13] 26)).alloc (Obj.cells #[.slice A14 n14 c14] 26)) := (by repeat' (first | exact Below.refl _ _ | (with_reducible assumption) | (with_reducible refine Below.alloc ?_ ?_ _) | (with_reducible refine Below.setCell ?_ ?_ _) | (with_reducible refine Below.drew ?_) | (with_reducible refine below_drewN ?_ _) | (refine Below.trans ?_ (Below.mono (by assumption) ?_)) | (with_reducible exact Nat.le_refl _) | (with_reducible assumption) | (exact Below.size (by assumption)) | omega | go_size | (simp at *; omega)))
  have X2 := hid (X2.out.alloc (Obj.cells #[.slice A14 n14 c14] 26))
  have X3 := hid (X3.out.alloc (Obj.cells #[.slice A14 n14 c14] 26))
  have X4 := hid (X4.out.alloc (Obj.cells #[.slice A14 n14 c14] 26))
  have X7 := hid (X7.out.alloc (Obj.cells #[.slice A14 n14 c14] 26))
  have X8 := hid (X8.out.alloc (Obj.cells #[.slice A14 n14 c14] 26))
  have X9 := hid (X9.out.alloc (Obj.cells #[.slice A14 n14 c14] 26))
  have X13 := hid (X13.out.alloc (Obj.cells #[.slice A14 n14 c14] 26))
  have M2 := hid ((M2.out.below hal (Nat.le_refl _)).more hal.size)
  have M3 := hid ((M3.out.below hal (Nat.le_refl _)).more hal.size)
  have M4 := hid ((M4.out.below hal (Nat.le_refl _)).more hal.size)
  have M7 := hid ((M7.out.below hal (Nat.le_refl _)).more hal.size)
  have M8 := hid ((M8.out.below hal (Nat.le_refl _)).more hal.size)
  have M9 := hid ((M9.out.below hal (Nat.le_refl _)).more hal.size)
  have M13 := hid ((M13.out.below hal (Nat.le_refl _)).more hal.size)
  have R1 := hid ((R1.out.below hal (Nat.le_refl _)).more hal.size)
  have R5 := hid ((R5.out.below hal (Nat.le_refl _)).more hal.size)
  have R6 := hid ((R6.out.below hal (Nat.le_refl _)).more hal.size)
  have R11 := hid ((R11.out.below hal (Nat.le_refl _)).more hal.size)
  have R12 := hid ((R12.out.below hal (Nat.le_refl _)).more hal.size)
  have X14 := hid (Bx.new (w13.alloc (Obj.cells #[.slice A13 n13 c13] 26)) 26 #[.slice A14 n14 c14])
  have M14 := hid ((HM14.out.below hal (Nat.le_refl _)).more hal.size)
  have HB := hid (bchain HB.out hal)
  clear hal
  have hzq : (w13.alloc (Obj.cells #[.slice A13 n13 c13] 26)).heap.size = w13.heap.size + 1 := by simp
  rw [hzq] at X14
  clear hzq
  clear hb13
  clear HM13 HM14
  obtain ⟨sb, hsb⟩ : ∃ v, decide (a = b) = v := ⟨_, rfl⟩
  have HSB := hid hsb
  clear hsb
  have q9 : (sb != sb) = false := by simp
  go_wp2
  obtain ⟨W, hW⟩ : ∃ W, ((w13.alloc (Obj.cells #[.slice A13 n13 c13] 26)).alloc (Obj.cells #[.slice A14 n14 c14] 26)) = W := ⟨_, rfl⟩
  rw [hW] at HB X2 M2 X3 M3 X4 M4 X7 M7 X8 M8 X9 M9 X13 M13 X14 M14 R1 R5 R6 R11 R12 ⊢
  clear hW
  try clear l2 l3 l4 l7 l8 l9 l13 l14
  try clear x2 x3 x4 x7 x8 x9 x13 x14
  have hS := hid (fun (wq : World) (b : Below W.heap.size W wq) => (⟨b, (b.cell (p := ⟨w2.heap.size, 0, none⟩) X2.out.lt).trans (bx_c0 X2.out), (b.cell (p := ⟨w3.heap.size, 0, none⟩) X3.out.lt).trans (bx_c0 X3.out), (b.cell (p := ⟨w8.heap.size, 0, none⟩) X8.out.lt).trans (bx_c0 X8.out), (b.cell (p := ⟨w9.heap.size, 0, none⟩) X9.out.lt).trans (bx_c0 X9.out), (b.cell (p := ⟨w13.heap.size, 0, none⟩) X13.out.lt).trans (bx_c0 X13.out), (b.cell (p := ⟨(w13.heap.size + 1), 0, none⟩) X14.out.lt).trans (bx_c0 X14.out)⟩ : Below W.heap.size W wq ∧ wq.cell? ⟨w2.heap.size, 0, none⟩ = some (.slice A2 s.length c2) ∧ wq.cell? ⟨w3.heap.size, 0, none⟩ = some (.slice A3 s.length c3) ∧ wq.cell? ⟨w8.heap.size, 0, none⟩ = some (.slice A8 yy.length c8) ∧ wq.cell? ⟨w9.heap.size, 0, none⟩ = some (.slice A9 yy.length c9) ∧ wq.cell? ⟨w13.heap.size, 0, none⟩ = some (.slice A13 n13 c13) ∧ wq.cell? ⟨(w13.heap.size + 1), 0, none⟩ = some (.slice A14 n14 c14)))
  have l2 : w2.heap.size < W.heap.size := X2.out.lt
  have x2 : W.cell? ⟨w2.heap.size, 0, none⟩ = some (.slice A2 s.length c2) := bx_c0 X2.out
  have l3 : w3.heap.size < W.heap.size := X3.out.lt
  have x3 : W.cell? ⟨w3.heap.size, 0, none⟩ = some (.slice A3 s.length c3) := bx_c0 X3.out
  have l8 : w8.heap.size < W.heap.size := X8.out.lt
  have x8 : W.cell? ⟨w8.heap.size, 0, none⟩ = some (.slice A8 yy.length c8) := bx_c0 X8.out
  have l9 : w9.heap.size < W.heap.size := X9.out.lt
  have x9 : W.cell? ⟨w9.heap.size, 0, none⟩ = some (.slice A9 yy.length c9) := bx_c0 X9.out
  have l13 : w13.heap.size < W.heap.size := X13.out.lt
  have x13 : W.cell? ⟨w13.heap.size, 0, none⟩ = some (.slice A13 n13 c13) := bx_c0 X13.out
  have l14 : (w13.heap.size + 1) < W.heap.size := X14.out.lt
  have x14 : W.cell? ⟨(w13.heap.size + 1), 0, none⟩ = some (.slice A14 n14 c14) := bx_c0 X14.out
  have hT0 : Hid (∀ wq : World, Below W.heap.size W wq → Calls Try.prog 16 #[.agg #[.slice A2 s.length c2], .agg #[.slice A3 s.length c3]] wq fun e w' => e = .returned (.bool true) ∧ Below wq.heap.size wq w') := by
    refine hid fun wq b9 => ?_
    have h := specSameMulti_any A2 A3 s.length s.length c2 c3 s s wq HSN.out HSN.out HSR.out HSR.out ((M2.out.below b9 (Nat.le_refl _)).more b9.size) ((M3.out.below b9 (Nat.le_refl _)).more b9.size)
    rw [same_rows] at h
    exact h
  have hT1 : Hid (∀ wq : World, Below W.heap.size W wq → Calls Try.prog 37 #[.slice A5 sg.length c5, .slice A6 sg.length c6] wq fun e w' => e = .returned (.bool true) ∧ Below wq.heap.size wq w') := by
    refine hid fun wq b9 => ?_
    have h := f6ints_any A5 A6 sg.length sg.length c5 c6 sg sg wq HSGn.out HSGn.out ((R5.out.below b9 (Nat.le_refl _)).more b9.size) ((R6.out.below b9 (Nat.le_refl _)).more b9.size)
    rw [show decide (sg = sg) = true from decide_eq_true rfl] at h
    exact h
  have hT2 : Hid (∀ wq : World, Below W.heap.size W wq → Calls Try.prog 16 #[.agg #[.slice A8 yy.length c8], .agg #[.slice A9 yy.length c9]] wq fun e w' => e = .returned (.bool true) ∧ Below wq.heap.size wq w') := by
    refine hid fun wq b9 => ?_
    have h := specSameMulti_any A8 A9 yy.length yy.length c8 c9 yy yy wq HYN2.out HYN2.out HYR2.out HYR2.out ((M8.out.below b9 (Nat.le_refl _)).more b9.size) ((M9.out.below b9 (Nat.le_refl _)).more b9.size)
    rw [same_rows] at h
    exact h
  have hT3 : Hid (∀ wq : World, Below W.heap.size W wq → Calls Try.prog 37 #[.slice A11 z.length c11, .slice A12 z.length c12] wq fun e w' => e = .returned (.bool true) ∧ Below wq.heap.size wq w') := by
    refine hid fun wq b9 => ?_
    have h := f6ints_any A11 A12 z.length z.length c11 c12 z z wq HZn.out HZn.out ((R11.out.below b9 (Nat.le_refl _)).more b9.size) ((R12.out.below b9 (Nat.le_refl _)).more b9.size)
    rw [show decide (z = z) = true from decide_eq_true rfl] at h
    exact h
  have hT4 : Hid (∀ wq : World, Below W.heap.size W wq → Calls Try.prog 62 #[.agg #[.slice A13 n13 c13], .agg #[.slice A14 n14 c14]] wq fun e w' => e = .returned (.bool sb) ∧ Below wq.heap.size wq w') := by
    refine hid fun wq b9 => ?_
    have h := SameMulti_any A13 A14 n13 n14 c13 c14 a b wq (by omega) (by omega) HL13.out HL14.out ((M13.out.below b9 (Nat.le_refl _)).more b9.size) ((M14.out.below b9 (Nat.le_refl _)).more b9.size)
    rw [HSB.out] at h
    exact h
  have hT5 : Hid (∀ wq : World, Below W.heap.size W wq → Calls Try.prog 16 #[.agg #[.slice A13 n13 c13], .agg #[.slice A14 n14 c14]] wq fun e w' => e = .returned (.bool sb) ∧ Below wq.heap.size wq w') := by
    refine hid fun wq b9 => ?_
    have h := specSameMulti_any A13 A14 n13 n14 c13 c14 a b wq (by omega) (by omega) HL13.out HL14.out ((M13.out.below b9 (Nat.le_refl _)).more b9.size) ((M14.out.below b9 (Nat.le_refl _)).more b9.size)
    rw [HSB.out] at h
    exact h
  have hBd : Below W.heap.size W W.drew := (Below.refl _ _).drew
  
  go_region_held3 (fun w' => Below W.heap.size W w' ∧ w'.cell? ⟨w2.heap.size, 0, none⟩ = some (.slice A2 s.length c2) ∧ w'.cell? ⟨w3.heap.size, 0, none⟩ = some (.slice A3 s.length c3) ∧ w'.cell? ⟨w8.heap.size, 0, none⟩ = some (.slice A8 yy.length c8) ∧ w'.cell? ⟨w9.heap.size, 0, none⟩ = some (.slice A9 yy.length c9) ∧ w'.cell? ⟨w13.heap.size, 0, none⟩ = some (.slice A13 n13 c13) ∧ w'.cell? ⟨(w13.heap.size + 1), 0, none⟩ = some (.slice A14 n14 c14)) (with_reducible exact hS.out _ (by assumption)) (first | (go_at_call 16; with_reducible refine (hT0.out _ (by assumption)).mono ?_; rintro e w5 ⟨rfl, hb5⟩; have hB5 := bchain (show Below W.heap.size W _ by assumption) hb5) | (go_at_call 37; with_reducible refine (hT1.out _ (by assumption)).mono ?_; rintro e w5 ⟨rfl, hb5⟩; have hB5 := bchain (show Below W.heap.size W _ by assumption) hb5) | (go_at_call 16; with_reducible refine (hT2.out _ (by assumption)).mono ?_; rintro e w5 ⟨rfl, hb5⟩; have hB5 := bchain (show Below W.heap.size W _ by assumption) hb5) | (go_at_call 37; with_reducible refine (hT3.out _ (by assumption)).mono ?_; rintro e w5 ⟨rfl, hb5⟩; have hB5 := bchain (show Below W.heap.size W _ by assumption) hb5) | (go_at_call 62; with_reducible refine (hT4.out _ (by assumption)).mono ?_; rintro e w5 ⟨rfl, hb5⟩; have hB5 := bchain (show Below W.heap.size W _ by assumption) hb5) | (go_at_call 16; with_reducible refine (hT5.out _ (by assumption)).mono ?_; rintro e w5 ⟨rfl, hb5⟩; have hB5 := bchain (show Below W.heap.size W _ by assumption) hb5))
  have hQ : Below W.heap.size W w5 := by assumption
  have X2 := hid (X2.out.below hQ X2.out.lt)
  have X7 := hid (X7.out.below hQ X7.out.lt)
  have X8 := hid (X8.out.below hQ X8.out.lt)
  have M2 := hid ((M2.out.below hQ (Nat.le_refl _)).more hQ.size)
  have M7 := hid ((M7.out.below hQ (Nat.le_refl _)).more hQ.size)
  have M8 := hid ((M8.out.below hQ (Nat.le_refl _)).more hQ.size)
  have R1 := hid ((R1.out.below hQ (Nat.le_refl _)).more hQ.size)
  have HB := hid (bchain HB.out hQ)
  obtain ⟨we, hwe⟩ : ∃ we, w5 = we := ⟨_, rfl⟩
  rw [hwe] at X2 X7 X8 M2 M7 M8 R1 HB ⊢
  clear hQ l2 l3 l8 l9 l13 l14 x2 x3 x8 x9 x13 x14 hT0 hT1 hT2 hT3 hT4 hT5 hS hBd
  clear hwe
  go_upto_if 144 with fail
  go_cut [] (fun wx => Hid (Below we.heap.size we wx))
  case first =>
    by_cases h0 : bad = 0
    · subst h0
      have HBK := hid (rMo_back HS.out)
      have x2 := bx_c0 X2.out
      have l2 := X2.out.lt
      have hC := SingleOf_any A2 s.length c2 s we HSN.out HSR.out M2.out
      rw [HBK.out] at hC
      replace hC := hid hC
      go_wp2_with fail
      refine hC.out.mono ?_
      rintro e w6 ⟨⟨A15, c15, rfl, ho15⟩, hb6⟩
      simp only at ho15
      have hC2 := f6ints_any A15 A1 p.length p.length c15 c1 p p w6 (by omega) (by omega) (Rd.of_own ho15) ((R1.out.below hb6 (Nat.le_refl _)).more hb6.size)
      rw [show decide (p = p) = true from decide_eq_true rfl] at hC2
      replace hC2 := hid hC2
      have HB6 := hid hb6
      clear hC ho15 x2 l2 hb6
      go_wp2_with fail
      refine hC2.out.mono ?_
      rintro e w7 ⟨rfl, hb7⟩
      have HB7 := hid (bchain HB6.out hb7)
      clear hC2 hb7
      go_wp2_with fail
      go_meet
      exact HB7
    · have hq0 : (bad == 0) = false := by simpa using h0
      go_wp2_with fail
      go_meet
      exact hid (Below.refl _ _)
  case rest =>
    have hwe := hcut.out
    clear hcut
    have X7 := hid (X7.out.below hwe X7.out.lt)
    have X8 := hid (X8.out.below hwe X8.out.lt)
    have M7 := hid ((M7.out.below hwe (Nat.le_refl _)).more hwe.size)
    have M8 := hid ((M8.out.below hwe (Nat.le_refl _)).more hwe.size)
    have HB := hid (bchain HB.out hwe)
    clear hwe
    by_cases h3 : three = 0
    · subst h3
      obtain ⟨o1, o2, o3, q, o4, o5, o6⟩ := rotate_back HYY.out
      rw [HLR.out] at o4 o5 o6
      obtain ⟨ht1, ht2⟩ := tmod_lo by_ (n7 : Int) (by omega)
      have hq1 : (by_.tmod (n7 : Int) + (n7 : Int)).tmod (n7 : Int) = (q : Int) := by rw [Int.tmod_eq_emod_of_nonneg (by omega), mod_eq _ _ (by omega), o4]
      have hn0 : n7 ≠ 0 := by omega
      have O2 := hid o2
      have O6 := hid o6
      have x7 := bx_c0 X7.out
      have l7 := X7.out.lt
      have x8 := bx_c0 X8.out
      have l8 := X8.out.lt
      obtain ⟨hby1, hby2⟩ := HBY.out
      clear o1 o2 o3 o4 o6
      have hC := RotateMulti_any A8 yy.length c8 yy ((n7 : Int) - (q : Int)) wc (by omega) HYN.out HYR.out M8.out
      rw [O6.out] at hC
      replace hC := hid hC
      go_wp2_with fail
      refine (hC.out).mono ?_
      rintro e w14 ⟨⟨A16, c16, rfl, ho16⟩, hb14⟩
      try clear l7 l8
      try clear x7 x8
      clear hC
      simp only at ho16
      have HO16 := hid ho16.read
      clear ho16
      have X7 := hid (X7.out.below hb14 X7.out.lt)
      have X8 := hid (X8.out.below hb14 X8.out.lt)
      have M7 := hid ((M7.out.below hb14 (Nat.le_refl _)).more hb14.size)
      have M8 := hid ((M8.out.below hb14 (Nat.le_refl _)).more hb14.size)
      have HB := hid (bchain HB.out hb14)
      have l7 : w7.heap.size < w14.heap.size := X7.out.lt
      have x7 : w14.cell? ⟨w7.heap.size, 0, none⟩ = some (.slice A7 n7 c7) := bx_c0 X7.out
      have l8 : w8.heap.size < w14.heap.size := X8.out.lt
      have x8 : w14.cell? ⟨w8.heap.size, 0, none⟩ = some (.slice A8 yy.length c8) := bx_c0 X8.out
      have hal : Below w14.heap.size w14 (w14.alloc (Obj.cells #[.slice A16 r.length c16] 26)) := (by repeat' (first | exact Below.refl _ _ | (with_reducible assumption) | (with_reducible refine Below.alloc ?_ ?_ _) | (with_reducible refine Below.setCell ?_ ?_ _) | (with_reducible refine Below.drew ?_) | (with_reducible refine below_drewN ?_ _) | (refine Below.trans ?_ (Below.mono (by assumption) ?_)) | (with_reducible exact Nat.le_refl _) | (with_reducible assumption) | (exact Below.size (by assumption)) | omega | go_size | (simp at *; omega)))
      have X7 := hid (X7.out.alloc (Obj.cells #[.slice A16 r.length c16] 26))
      have X8 := hid (X8.out.alloc (Obj.cells #[.slice A16 r.length c16] 26))
      have M7 := hid ((M7.out.below hal (Nat.le_refl _)).more hal.size)
      have M8 := hid ((M8.out.below hal (Nat.le_refl _)).more hal.size)
      have X16 := hid (Bx.new w14 26 #[.slice A16 r.length c16])
      have M16 := hid ((HO16.out.below hal (Nat.le_refl _)).more hal.size)
      have HB := hid (bchain HB.out hal)
      clear hal
      clear hb14
      clear HO16
      have hC := ValidMulti_any A8 yy.length c8 yy (w14.alloc (Obj.cells #[.slice A16 r.length c16] 26)) HYN2.out HYR2.out M8.out
      rw [O2.out] at hC
      replace hC := hid hC
      go_wp2_with fail
      refine (hC.out).mono ?_
      rintro e w15 ⟨rfl, hb15⟩
      try clear l7 l8 l16
      try clear x7 x8 x16
      clear hC
      have X7 := hid (X7.out.below hb15 X7.out.lt)
      have X8 := hid (X8.out.below hb15 X8.out.lt)
      have X16 := hid (X16.out.below hb15 X16.out.lt)
      have M7 := hid ((M7.out.below hb15 (Nat.le_refl _)).more hb15.size)
      have M8 := hid ((M8.out.below hb15 (Nat.le_refl _)).more hb15.size)
      have M16 := hid ((M16.out.below hb15 (Nat.le_refl _)).more hb15.size)
      have HB := hid (bchain HB.out hb15)
      have l7 : w7.heap.size < w15.heap.size := X7.out.lt
      have x7 : w15.cell? ⟨w7.heap.size, 0, none⟩ = some (.slice A7 n7 c7) := bx_c0 X7.out
      have l8 : w8.heap.size < w15.heap.size := X8.out.lt
      have x8 : w15.cell? ⟨w8.heap.size, 0, none⟩ = some (.slice A8 yy.length c8) := bx_c0 X8.out
      have l16 : w14.heap.size < w15.heap.size := X16.out.lt
      have x16 : w15.cell? ⟨w14.heap.size, 0, none⟩ = some (.slice A16 r.length c16) := bx_c0 X16.out
      clear hb15
      have HLR2 : Hid (∀ r9 ∈ r, r9.length ≤ 1099511627776) := fun r9 hr => by have := HL7.out r9 hr; omega
      have hC := specSameMulti_any A16 A7 r.length n7 c16 c7 r r w15 (by have := HLR.out; omega) (by omega) HLR2.out HLR2.out M16.out M7.out
      rw [same_rows] at hC
      replace hC := hid hC
      go_wp2_with fail
      refine (hC.out).mono ?_
      rintro e w16 ⟨rfl, hb16⟩
      try clear l7 l8 l16
      try clear x7 x8 x16
      clear hC
      have X7 := hid (X7.out.below hb16 X7.out.lt)
      have X8 := hid (X8.out.below hb16 X8.out.lt)
      have X16 := hid (X16.out.below hb16 X16.out.lt)
      have M7 := hid ((M7.out.below hb16 (Nat.le_refl _)).more hb16.size)
      have M8 := hid ((M8.out.below hb16 (Nat.le_refl _)).more hb16.size)
      have M16 := hid ((M16.out.below hb16 (Nat.le_refl _)).more hb16.size)
      have HB := hid (bchain HB.out hb16)
      have l7 : w7.heap.size < w16.heap.size := X7.out.lt
      have x7 : w16.cell? ⟨w7.heap.size, 0, none⟩ = some (.slice A7 n7 c7) := bx_c0 X7.out
      have l8 : w8.heap.size < w16.heap.size := X8.out.lt
      have x8 : w16.cell? ⟨w8.heap.size, 0, none⟩ = some (.slice A8 yy.length c8) := bx_c0 X8.out
      have l16 : w14.heap.size < w16.heap.size := X16.out.lt
      have x16 : w16.cell? ⟨w14.heap.size, 0, none⟩ = some (.slice A16 r.length c16) := bx_c0 X16.out
      clear hb16
      go_wp2
      go_ret
      exact ⟨rfl, HB.out⟩
    · have hq0 : (three != 0) = true := by simpa using h3
      go_wp2
      go_ret
      exact ⟨rfl, HB.out⟩
set_option maxRecDepth 100000 in
theorem fnSingles_walk (w : World) (A : Option Addr) (n c : Nat) (xs : List Int) (hK : Came .u8 w A n c xs) :
    Calls Try.prog 7 #[.slice A n c] w fun e w' => e = .returned (.bool true) ∧ Below w.heap.size w w' := by
  by_cases h : n ≤ 4096
  · exact fnSingles_main w A n c xs hK h
  · have hq : decide (4096 < n) = true := by simp; omega
    have h1 := hK.2.1; have h2 := hK.2.2.1
    unfold maxLen at h2
    have hL := f6big_any A n c w (by omega)
    rw [hq] at hL
    have hL := hid hL
    clear hK h hq
    go_enter Try.func7, Try.ntmps7
    go_wp2_with (go_at_call 9; refine (hL.out).mono ?_; rintro e w' ⟨rfl, rfl⟩)
    go_ret
    exact ⟨rfl, (by repeat' (first | exact Below.refl _ _ | (with_reducible assumption) | (with_reducible refine Below.alloc ?_ ?_ _) | (with_reducible refine Below.setCell ?_ ?_ _) | (with_reducible refine Below.drew ?_) | (with_reducible refine below_drewN ?_ _) | (refine Below.trans ?_ (Below.mono (by assumption) ?_)) | (with_reducible exact Nat.le_refl _) | (with_reducible assumption) | (exact Below.size (by assumption)) | omega | go_size | (simp at *; omega)))⟩
end Go.Proofs.Ytlbhfjbbkkkldaa
