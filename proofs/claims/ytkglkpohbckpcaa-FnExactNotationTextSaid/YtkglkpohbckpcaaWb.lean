/- NotationBeats: contracts, and the law's walk. -/
import Derived.Test.YtkglkpohbckpcaaWo
namespace Go.Proofs.Ytkglkpohbckpcaa
open Go.RowKit
set_option linter.unusedVariables false

theorem ntOk_eb {x : Note} (h : ntOk x = true) : ebN x = true ∧ swN x = true := by
  unfold ntOk at h
  rw [Bool.and_eq_true] at h; exact h
theorem ntOk_kind {x : Note} (h : ntOk x = true) : x.1 = 1 ∨ x.1 = 2 ∨ x.1 = 3 ∨ x.1 = 4 := by
  have h2 := (ntOk_eb h).2
  have hk : x.1 = 1 ∨ x.1 = 2 ∨ x.1 = 3 ∨ x.1 = 4 ∨ (x.1 ≠ 1 ∧ x.1 ≠ 2 ∧ x.1 ≠ 3 ∧ x.1 ≠ 4) := by omega
  rcases hk with h | h | h | h | ⟨a, b, c, d⟩
  · exact .inl h
  · exact .inr (.inl h)
  · exact .inr (.inr (.inl h))
  · exact .inr (.inr (.inr h))
  · rw [swN_0 a b c d] at h2; cases h2
theorem btN_at {x : Note} (h : ntOk x = true) : btN x = if x.1 = 1 then (x.2.1.length : Int) else if x.1 = 2 then (x.2.2.1.length : Int) else if x.1 = 3 then 2 * (x.2.2.2.1.length : Int) else (x.2.2.2.2.1.length : Int) := by
  have h1 := ebN_iff.1 (ntOk_eb h).1
  have h2 := ntOk_kind h
  unfold btN
  rcases h2 with h2 | h2 | h2 | h2 <;> rw [h2] <;> rw [h2] at h1 <;> simp <;> omega
set_option maxRecDepth 100000 in
set_option maxHeartbeats 4000000 in
theorem NotationBeats_any (k : Int) (p : List Int) (m : List (List Int)) (y : List Beat) (q1 q2 : List PT) (s : Six) (w : World) (hs : NtSm (k, p, m, y, (q1, q2))) (h : NtRd (k, p, m, y, (q1, q2)) s w) :
    Calls Try.prog 19 #[.agg #[.int .i64 k, .slice s.A p.length s.c, .slice s.A2 m.length s.c2, .slice s.A3 y.length s.c3, .slice s.A4 q1.length s.c4, .slice s.A5 q2.length s.c5]] w fun e w' => e = .returned (.tuple #[.int .i64 (rNotationBeats (k, p, m, y, (q1, q2))).1, .int .i64 (rNotationBeats (k, p, m, y, (q1, q2))).2]) ∧ Below w.heap.size w w' := by
  obtain ⟨A, c, A2, c2, A3, c3, A4, c4, A5, c5⟩ := s
  simp only
  have hB0 : Below w.heap.size w (w.alloc (Obj.cells #[.int .i64 k, .slice A p.length c, .slice A2 m.length c2, .slice A3 y.length c3, .slice A4 q1.length c4, .slice A5 q2.length c5] 40)) := Below.alloc (Below.refl _ _) (Nat.le_refl _) _
  have hX := Bx.new w 40 #[.int .i64 k, .slice A p.length c, .slice A2 m.length c2, .slice A3 y.length c3, .slice A4 q1.length c4, .slice A5 q2.length c5]
  have hV := ValidNotation_any k p m y q1 q2 ⟨A, c, A2, c2, A3, c3, A4, c4, A5, c5⟩ _ hs (h.below hB0)
  obtain ⟨l1, ⟨l2, l3, _⟩, l4, l5, l6⟩ := hs
  simp only at l1 l2 l3 l4 l5 l6 hV
  obtain ⟨b, hb⟩ : ∃ b, ntOk (k, p, m, y, (q1, q2)) = b := ⟨_, rfl⟩
  have HR : Hid (rNotationBeats (k, p, m, y, (q1, q2)) = if b then ((p.length : Int) + m.length + 2 * y.length + q1.length, 0) else (0, 1)) := by show _ = _; rw [rNotationBeats, hb]; rfl
  rw [hb] at hV
  have hV := hid hV
  have HB0 := hid hB0
  have HX := hid hX
  generalize rNotationBeats (k, p, m, y, (q1, q2)) = R at *
  clear h hB0 hX hb
  go_enter Try.func19, Try.ntmps19
  go_wp2_with fail
  refine hV.out.mono ?_
  rintro e w1 ⟨rfl, hb1⟩
  have hB1 := bchain HB0.out hb1
  have hX1 := HX.out.below hb1 HX.out.lt
  obtain ⟨⟨a0, a1, a2, a3, a4, a5⟩, -⟩ := zc hX1
  have hl1 := hX1.lt
  clear hV HX HB0 hb1 hX1
  cases b
  · go_wp2
    go_ret2
    exact ⟨by rw [HR.out]; rfl, hB1⟩
  · go_wp2
    go_ret2
    exact ⟨by rw [HR.out]; rfl, hB1⟩
set_option maxRecDepth 100000 in
set_option maxHeartbeats 4000000 in
theorem specNotationBeats_any (k : Int) (p : List Int) (m : List (List Int)) (y : List Beat) (q1 q2 : List PT) (s : Six) (w : World) (hs : NtSm (k, p, m, y, (q1, q2))) (h : NtRd (k, p, m, y, (q1, q2)) s w) :
    Calls Try.prog 18 #[.agg #[.int .i64 k, .slice s.A p.length s.c, .slice s.A2 m.length s.c2, .slice s.A3 y.length s.c3, .slice s.A4 q1.length s.c4, .slice s.A5 q2.length s.c5]] w fun e w' => e = .returned (.tuple #[.int .i64 (rNotationBeats (k, p, m, y, (q1, q2))).1, .int .i64 (rNotationBeats (k, p, m, y, (q1, q2))).2]) ∧ Below w.heap.size w w' := by
  obtain ⟨A, c, A2, c2, A3, c3, A4, c4, A5, c5⟩ := s
  simp only
  have hB0 : Below w.heap.size w (w.alloc (Obj.cells #[.int .i64 k, .slice A p.length c, .slice A2 m.length c2, .slice A3 y.length c3, .slice A4 q1.length c4, .slice A5 q2.length c5] 40)) := Below.alloc (Below.refl _ _) (Nat.le_refl _) _
  have hX := Bx.new w 40 #[.int .i64 k, .slice A p.length c, .slice A2 m.length c2, .slice A3 y.length c3, .slice A4 q1.length c4, .slice A5 q2.length c5]
  have hV := l07Ok_any w.heap.size k p m y q1 q2 ⟨A, c, A2, c2, A3, c3, A4, c4, A5, c5⟩ _ hs hX (h.below hB0)
  obtain ⟨l1, ⟨l2, l3, _⟩, l4, l5, l6⟩ := hs
  simp only at l1 l2 l3 l4 l5 l6 hV
  obtain ⟨x, hx⟩ : ∃ x : Note, (k, p, m, y, (q1, q2)) = x := ⟨_, rfl⟩
  rw [hx] at hV ⊢
  obtain ⟨b, hb⟩ : ∃ b, ntOk x = b := ⟨_, rfl⟩
  have HR : Hid (rNotationBeats x = if b then (btN x, 0) else (0, 1)) := by show _ = _; rw [rNotationBeats, hb]
  have HBT : Hid (b = true → btN x = if k = 1 then (p.length : Int) else if k = 2 then (m.length : Int) else if k = 3 then 2 * (y.length : Int) else (q1.length : Int)) := fun h => by
    rw [btN_at (by rw [hb, h]), ← hx]
  have HK : Hid (b = true → k = 1 ∨ k = 2 ∨ k = 3 ∨ k = 4) := fun h => by
    have := ntOk_kind (x := x) (by rw [hb, h]); rw [← hx] at this; exact this
  rw [hb] at hV
  have hV := hid hV
  have HB0 := hid hB0
  have HX := hid hX
  generalize rNotationBeats x = R at *
  generalize btN x = N at *
  clear h hB0 hX hb hx
  go_enter Try.func18, Try.ntmps18
  go_wp2_with fail
  refine hV.out.mono ?_
  rintro e w1 ⟨rfl, hb1⟩
  have hB1 := bchain HB0.out hb1
  have hX1 := HX.out.below hb1 HX.out.lt
  obtain ⟨⟨a0, a1, a2, a3, a4, a5⟩, -⟩ := zc hX1
  have hl1 := hX1.lt
  clear hV HX HB0 hb1 hX1
  cases b
  · clear HBT HK
    go_wp2
    go_ret2
    exact ⟨by rw [HR.out]; rfl, hB1⟩
  · have HN := hid (HBT.out rfl)
    have hk := HK.out rfl
    clear HBT HK
    rcases hk with rfl | rfl | rfl | rfl
    all_goals
      go_wp2
      go_ret2
      exact ⟨by rw [HR.out, HN.out]; rfl, hB1⟩
set_option maxRecDepth 100000 in
set_option maxHeartbeats 8000000 in
theorem fnExactNotationBeats_walk (w : World) (k : Int) (p : List Int) (m : List (List Int)) (y : List Beat) (q1 q2 : List PT) (s : Six) (m1 : p.length ≤ maxLen) (m2 : m.length ≤ maxLen) (m3 : ∀ r ∈ m, r.length ≤ maxLen) (m4 : y.length ≤ maxLen) (m5 : q1.length ≤ maxLen) (m6 : q2.length ≤ maxLen) (h : NtRd (k, p, m, y, (q1, q2)) s w) :
    Calls Try.prog 4 #[.agg #[.int .i64 k, .slice s.A p.length s.c, .slice s.A2 m.length s.c2, .slice s.A3 y.length s.c3, .slice s.A4 q1.length s.c4, .slice s.A5 q2.length s.c5]] w fun e w' => e = .returned (.bool true) ∧ Below w.heap.size w w' := by
  obtain ⟨A, c, A2, c2, A3, c3, A4, c4, A5, c5⟩ := s
  simp only
  have hB0 : Below w.heap.size w (w.alloc (Obj.cells #[.int .i64 k, .slice A p.length c, .slice A2 m.length c2, .slice A3 y.length c3, .slice A4 q1.length c4, .slice A5 q2.length c5] 31)) := Below.alloc (Below.refl _ _) (Nat.le_refl _) _
  have hX := Bx.new w 31 #[.int .i64 k, .slice A p.length c, .slice A2 m.length c2, .slice A3 y.length c3, .slice A4 q1.length c4, .slice A5 q2.length c5]
  have hS := hid (szNotation_any k A A2 A3 A4 A5 p.length m.length y.length q1.length q2.length c c2 c3 c4 c5 1048576 m (w.alloc (Obj.cells #[.int .i64 k, .slice A p.length c, .slice A2 m.length c2, .slice A3 y.length c3, .slice A4 q1.length c4, .slice A5 q2.length c5] 31)) m1 m2 m3 m4 m5 m6 (by omega) ((h.below hB0).2.1))
  have HB0 := hid hB0
  have HX := hid hX
  have HH := hid h
  clear h hB0 hX m1 m2 m3 m4 m5 m6
  go_enter Try.func4, Try.ntmps4
  go_wp2_with fail
  refine hS.out.mono ?_
  rintro e w1 ⟨⟨r, rfl, hr⟩, hb1⟩
  have hB1 := bchain HB0.out hb1
  have hX1 := HX.out.below hb1 HX.out.lt
  obtain ⟨⟨a0, a1, a2, a3, a4, a5⟩, -⟩ := zc hX1
  have hl1 := hX1.lt
  rcases hr with rfl | ⟨r0, hr⟩
  · clear hS HX HH HB0 hb1 hX1
    go_wp2
    go_ret
    exact ⟨rfl, hB1⟩
  · have hsm : NtSm (k, p, m, y, (q1, q2)) := NtSm.of_left r0 hr
    have hT := fun (w1 : World) (b : Below w.heap.size w w1) => toNotation_any k p m y q1 q2 ⟨A, c, A2, c2, A3, c3, A4, c4, A5, c5⟩ w1 hsm (HH.out.below b)
    simp only at hT
    have hT := hid hT
    have hF := hid (fun (t : Six) (w1 : World) (h : NtRd (k, p, m, y, (q1, q2)) t w1) => specNotationBeats_any k p m y q1 q2 t w1 hsm h)
    have hG := hid (fun (t : Six) (w1 : World) (h : NtRd (k, p, m, y, (q1, q2)) t w1) => NotationBeats_any k p m y q1 q2 t w1 hsm h)
    have hE := hid (fun (t u : Six) (w1 : World) (h : NtRd (k, p, m, y, (q1, q2)) t w1) (h' : NtRd (k, p, m, y, (q1, q2)) u w1) => eqNotation_same k p m y q1 q2 t u w1 hsm h h')
    obtain ⟨⟨v, u⟩, hb⟩ : ∃ b, rNotationBeats (k, p, m, y, (q1, q2)) = b := ⟨_, rfl⟩
    rw [hb] at hF hG
    simp only at hF hG
    have hbq : (v != v) = false := by simp
    have hbq2 : (u != u) = false := by simp
    have hrn : ¬ r < 0 := by omega
    have HX1 := hid hX1
    clear hS HX HH HB0 hb1 hX1 hr hb hsm
    go_wp2_with fail
    refine (hT.out _ hB1).mono ?_
    rintro e w2 ⟨⟨⟨D, d, D2, d2, D3, d3, D4, d4, D5, d5⟩, rfl, hrd2⟩, hb2⟩
    have HB2 := hid (bchain hB1 hb2)
    have HX2 := hid (HX1.out.below hb2 HX1.out.lt)
    have HR2 := hid hrd2
    simp only
    clear hB1 HX1 hrd2 hb2 a0 a1 a2 a3 a4 a5 hl1 hrn r0
    go_wp2_with fail
    refine (hF.out ⟨D, d, D2, d2, D3, d3, D4, d4, D5, d5⟩ w2 HR2.out).mono ?_
    rintro e w3 ⟨rfl, hb3⟩
    have hB3 := bchain HB2.out hb3
    have hX3 := HX2.out.below hb3 HX2.out.lt
    obtain ⟨⟨a0, a1, a2, a3, a4, a5⟩, -⟩ := zc hX3
    have hl1 := hX3.lt
    have HB3 := hid hB3
    have HX3 := hid hX3
    clear HB2 HX2 HR2 hb3 hB3 hX3 hF
    go_wp2_with fail
    refine (hT.out _ HB3.out).mono ?_
    rintro e w4 ⟨⟨⟨G, g, G2, g2, G3, g3, G4, g4, G5, g5⟩, rfl, hrd4⟩, hb4⟩
    have HB4 := hid (bchain HB3.out hb4)
    have HX4 := hid (HX3.out.below hb4 HX3.out.lt)
    have HBA : Hid (Below w4.heap.size w4 (w4.alloc (Obj.cells #[.int .i64 k, .slice G p.length g, .slice G2 m.length g2, .slice G3 y.length g3, .slice G4 q1.length g4, .slice G5 q2.length g5] 40))) := Below.alloc (Below.refl _ _) (Nat.le_refl _) _
    have HR4 := hid (hrd4.below HBA.out)
    have HY4 := hid (Bx.new w4 40 #[.int .i64 k, .slice G p.length g, .slice G2 m.length g2, .slice G3 y.length g3, .slice G4 q1.length g4, .slice G5 q2.length g5])
    simp only
    clear HB3 HX3 hrd4 hb4 a0 a1 a2 a3 a4 a5 hl1
    go_wp2_with fail
    refine (hG.out ⟨G, g, G2, g2, G3, g3, G4, g4, G5, g5⟩ _ HR4.out).mono ?_
    rintro e w5 ⟨rfl, hb5⟩
    have HB5 := hid ((HB4.out.trans (HBA.out.mono HB4.out.size)).trans (hb5.mono (HB4.out.trans (HBA.out.mono HB4.out.size)).size))
    have HX5 := hid ((HX4.out.alloc (Obj.cells #[.int .i64 k, .slice G p.length g, .slice G2 m.length g2, .slice G3 y.length g3, .slice G4 q1.length g4, .slice G5 q2.length g5] 40)).below hb5 (HX4.out.alloc _).lt)
    have HY5 := hid (HY4.out.below hb5 HY4.out.lt)
    have HR5 := hid (HR4.out.below hb5)
    clear HB4 HX4 HBA HR4 HY4 hb5 hG
    obtain ⟨⟨a0, a1, a2, a3, a4, a5⟩, -⟩ := zc HX5.out
    obtain ⟨⟨b0, b1, b2, b3, b4, b5⟩, -⟩ := zc HY5.out
    have hl1 := HX5.out.lt
    have hl2 := HY5.out.lt
    go_wp2
    go_region_with (first
      | (go_at_call 15; go_loud (with_reducible refine (hT.out _ (by repeat' (first | (with_reducible exact HB5.out) | (with_reducible refine Below.drew ?_)))).mono ?_; rintro e w6 ⟨⟨⟨K, k1, K2, k2, K3, k3, K4, k4, K5, k5⟩, rfl, hrd6⟩, hb6⟩; have hY6 := (Bx.drew HY5.out).below hb6 (Bx.drew HY5.out).lt; obtain ⟨⟨x0, x1, x2, x3, x4, x5⟩, -⟩ := zc hY6; have hR6 := NtRd.below (NtRd.drew HR5.out) hb6; have hB6 := bchain HB5.out.drew hb6))
      | (go_at_call 17; have hEE := hE.out ⟨G, g, G2, g2, G3, g3, G4, g4, G5, g5⟩ ⟨K, k1, K2, k2, K3, k3, K4, k4, K5, k5⟩ _ hR6 hrd6; simp only at hEE; with_reducible refine hEE.mono ?_; rintro e w7 ⟨rfl, hb7⟩; have hB7 := bchain hB6 hb7))
    all_goals
      go_wp2
      go_ret
      exact ⟨rfl, hB7⟩
end Go.Proofs.Ytkglkpohbckpcaa
