/- Several texts in one: Nx, Qd. -/
import Derived.Test.YtgphkfnobmponaaGreatG24
import Derived.Test.YtgphkfnobmponaaGreatNk
import Derived.Test.YtgphkfnobmponaaGreatG09
import Derived.Test.YtgphkfnobmponaaGreatG21
/- Contracts of the program's checks of notations. -/
namespace Go.Proofs.YtgphkfnobmponaaGreat
open Go.RowKit
set_option linter.unusedVariables false

set_option maxRecDepth 100000 in
set_option maxHeartbeats 8000000 in
theorem isEmptyBut_any (k : Int) (A A2 A3 A4 A5 : Option Addr) (n1 n2 n3 n4 n5 c c2 c3 c4 c5 : Nat) (w : World) (h4 : n4 ≤ 1099511627776) (h5 : n5 ≤ 1099511627776) :
    Calls Tryz.prog 57 #[.agg #[.int .i64 k, .slice A n1 c, .slice A2 n2 c2, .slice A3 n3 c3, .slice A4 n4 c4, .slice A5 n5 c5]] w fun e w' => e = .returned (.bool (ebL k n1 n2 n3 n4 n5)) ∧ Below w.heap.size w w' := by
  have hk : k = 1 ∨ k = 2 ∨ k = 3 ∨ k = 4 ∨ (k ≠ 1 ∧ k ≠ 2 ∧ k ≠ 3 ∧ k ≠ 4) := by omega
  have hq0 := True.intro
  rcases hk with hk | hk | hk | hk | hk
  · subst hk
    cases r2 : (((n2 : Int) == 0)) with
    | false =>
      clear hq0
      go_enter Tryz.func57, Tryz.ntmps57
      go_wp2
      go_ret
      exact ⟨ret_bool (by simp only [ebL, r2]; rfl), (by repeat' (first | exact Below.refl _ _ | (with_reducible first | assumption | exact Nat.le_refl _ | refine Below.alloc ?_ ?_ _ | refine Below.setCell ?_ ?_ _ | refine Below.drew ?_ | refine below_drewN ?_ _) | refine Below.trans ?_ (Below.mono (by assumption) ?_) | exact Below.size (by assumption) | omega | go_size | (simp at *; omega)))⟩
    | true =>
      cases r3 : (((n3 : Int) == 0)) with
      | false =>
        clear hq0
        go_enter Tryz.func57, Tryz.ntmps57
        go_wp2
        go_ret
        exact ⟨ret_bool (by simp only [ebL, r2, r3]; rfl), (by repeat' (first | exact Below.refl _ _ | (with_reducible first | assumption | exact Nat.le_refl _ | refine Below.alloc ?_ ?_ _ | refine Below.setCell ?_ ?_ _ | refine Below.drew ?_ | refine below_drewN ?_ _) | refine Below.trans ?_ (Below.mono (by assumption) ?_) | exact Below.size (by assumption) | omega | go_size | (simp at *; omega)))⟩
      | true =>
        cases r4 : (((n4 : Int) + (n5 : Int) == 0)) with
        | false =>
          clear hq0
          go_enter Tryz.func57, Tryz.ntmps57
          go_wp2
          go_ret
          exact ⟨ret_bool (by simp only [ebL, r2, r3, r4]; rfl), (by repeat' (first | exact Below.refl _ _ | (with_reducible first | assumption | exact Nat.le_refl _ | refine Below.alloc ?_ ?_ _ | refine Below.setCell ?_ ?_ _ | refine Below.drew ?_ | refine below_drewN ?_ _) | refine Below.trans ?_ (Below.mono (by assumption) ?_) | exact Below.size (by assumption) | omega | go_size | (simp at *; omega)))⟩
        | true =>
          clear hq0
          go_enter Tryz.func57, Tryz.ntmps57
          go_wp2
          go_ret
          exact ⟨ret_bool (by simp only [ebL, r2, r3, r4]; rfl), (by repeat' (first | exact Below.refl _ _ | (with_reducible first | assumption | exact Nat.le_refl _ | refine Below.alloc ?_ ?_ _ | refine Below.setCell ?_ ?_ _ | refine Below.drew ?_ | refine below_drewN ?_ _) | refine Below.trans ?_ (Below.mono (by assumption) ?_) | exact Below.size (by assumption) | omega | go_size | (simp at *; omega)))⟩
  · subst hk
    cases r1 : (((n1 : Int) == 0)) with
    | false =>
      clear hq0
      go_enter Tryz.func57, Tryz.ntmps57
      go_wp2
      go_ret
      exact ⟨ret_bool (by simp only [ebL, r1]; rfl), (by repeat' (first | exact Below.refl _ _ | (with_reducible first | assumption | exact Nat.le_refl _ | refine Below.alloc ?_ ?_ _ | refine Below.setCell ?_ ?_ _ | refine Below.drew ?_ | refine below_drewN ?_ _) | refine Below.trans ?_ (Below.mono (by assumption) ?_) | exact Below.size (by assumption) | omega | go_size | (simp at *; omega)))⟩
    | true =>
      cases r3 : (((n3 : Int) == 0)) with
      | false =>
        clear hq0
        go_enter Tryz.func57, Tryz.ntmps57
        go_wp2
        go_ret
        exact ⟨ret_bool (by simp only [ebL, r1, r3]; rfl), (by repeat' (first | exact Below.refl _ _ | (with_reducible first | assumption | exact Nat.le_refl _ | refine Below.alloc ?_ ?_ _ | refine Below.setCell ?_ ?_ _ | refine Below.drew ?_ | refine below_drewN ?_ _) | refine Below.trans ?_ (Below.mono (by assumption) ?_) | exact Below.size (by assumption) | omega | go_size | (simp at *; omega)))⟩
      | true =>
        cases r4 : (((n4 : Int) + (n5 : Int) == 0)) with
        | false =>
          clear hq0
          go_enter Tryz.func57, Tryz.ntmps57
          go_wp2
          go_ret
          exact ⟨ret_bool (by simp only [ebL, r1, r3, r4]; rfl), (by repeat' (first | exact Below.refl _ _ | (with_reducible first | assumption | exact Nat.le_refl _ | refine Below.alloc ?_ ?_ _ | refine Below.setCell ?_ ?_ _ | refine Below.drew ?_ | refine below_drewN ?_ _) | refine Below.trans ?_ (Below.mono (by assumption) ?_) | exact Below.size (by assumption) | omega | go_size | (simp at *; omega)))⟩
        | true =>
          clear hq0
          go_enter Tryz.func57, Tryz.ntmps57
          go_wp2
          go_ret
          exact ⟨ret_bool (by simp only [ebL, r1, r3, r4]; rfl), (by repeat' (first | exact Below.refl _ _ | (with_reducible first | assumption | exact Nat.le_refl _ | refine Below.alloc ?_ ?_ _ | refine Below.setCell ?_ ?_ _ | refine Below.drew ?_ | refine below_drewN ?_ _) | refine Below.trans ?_ (Below.mono (by assumption) ?_) | exact Below.size (by assumption) | omega | go_size | (simp at *; omega)))⟩
  · subst hk
    cases r1 : (((n1 : Int) == 0)) with
    | false =>
      clear hq0
      go_enter Tryz.func57, Tryz.ntmps57
      go_wp2
      go_ret
      exact ⟨ret_bool (by simp only [ebL, r1]; rfl), (by repeat' (first | exact Below.refl _ _ | (with_reducible first | assumption | exact Nat.le_refl _ | refine Below.alloc ?_ ?_ _ | refine Below.setCell ?_ ?_ _ | refine Below.drew ?_ | refine below_drewN ?_ _) | refine Below.trans ?_ (Below.mono (by assumption) ?_) | exact Below.size (by assumption) | omega | go_size | (simp at *; omega)))⟩
    | true =>
      cases r2 : (((n2 : Int) == 0)) with
      | false =>
        clear hq0
        go_enter Tryz.func57, Tryz.ntmps57
        go_wp2
        go_ret
        exact ⟨ret_bool (by simp only [ebL, r1, r2]; rfl), (by repeat' (first | exact Below.refl _ _ | (with_reducible first | assumption | exact Nat.le_refl _ | refine Below.alloc ?_ ?_ _ | refine Below.setCell ?_ ?_ _ | refine Below.drew ?_ | refine below_drewN ?_ _) | refine Below.trans ?_ (Below.mono (by assumption) ?_) | exact Below.size (by assumption) | omega | go_size | (simp at *; omega)))⟩
      | true =>
        cases r4 : (((n4 : Int) + (n5 : Int) == 0)) with
        | false =>
          clear hq0
          go_enter Tryz.func57, Tryz.ntmps57
          go_wp2
          go_ret
          exact ⟨ret_bool (by simp only [ebL, r1, r2, r4]; rfl), (by repeat' (first | exact Below.refl _ _ | (with_reducible first | assumption | exact Nat.le_refl _ | refine Below.alloc ?_ ?_ _ | refine Below.setCell ?_ ?_ _ | refine Below.drew ?_ | refine below_drewN ?_ _) | refine Below.trans ?_ (Below.mono (by assumption) ?_) | exact Below.size (by assumption) | omega | go_size | (simp at *; omega)))⟩
        | true =>
          clear hq0
          go_enter Tryz.func57, Tryz.ntmps57
          go_wp2
          go_ret
          exact ⟨ret_bool (by simp only [ebL, r1, r2, r4]; rfl), (by repeat' (first | exact Below.refl _ _ | (with_reducible first | assumption | exact Nat.le_refl _ | refine Below.alloc ?_ ?_ _ | refine Below.setCell ?_ ?_ _ | refine Below.drew ?_ | refine below_drewN ?_ _) | refine Below.trans ?_ (Below.mono (by assumption) ?_) | exact Below.size (by assumption) | omega | go_size | (simp at *; omega)))⟩
  · subst hk
    cases r1 : (((n1 : Int) == 0)) with
    | false =>
      clear hq0
      go_enter Tryz.func57, Tryz.ntmps57
      go_wp2
      go_ret
      exact ⟨ret_bool (by simp only [ebL, r1]; rfl), (by repeat' (first | exact Below.refl _ _ | (with_reducible first | assumption | exact Nat.le_refl _ | refine Below.alloc ?_ ?_ _ | refine Below.setCell ?_ ?_ _ | refine Below.drew ?_ | refine below_drewN ?_ _) | refine Below.trans ?_ (Below.mono (by assumption) ?_) | exact Below.size (by assumption) | omega | go_size | (simp at *; omega)))⟩
    | true =>
      cases r2 : (((n2 : Int) == 0)) with
      | false =>
        clear hq0
        go_enter Tryz.func57, Tryz.ntmps57
        go_wp2
        go_ret
        exact ⟨ret_bool (by simp only [ebL, r1, r2]; rfl), (by repeat' (first | exact Below.refl _ _ | (with_reducible first | assumption | exact Nat.le_refl _ | refine Below.alloc ?_ ?_ _ | refine Below.setCell ?_ ?_ _ | refine Below.drew ?_ | refine below_drewN ?_ _) | refine Below.trans ?_ (Below.mono (by assumption) ?_) | exact Below.size (by assumption) | omega | go_size | (simp at *; omega)))⟩
      | true =>
        cases r3 : (((n3 : Int) == 0)) with
        | false =>
          clear hq0
          go_enter Tryz.func57, Tryz.ntmps57
          go_wp2
          go_ret
          exact ⟨ret_bool (by simp only [ebL, r1, r2, r3]; rfl), (by repeat' (first | exact Below.refl _ _ | (with_reducible first | assumption | exact Nat.le_refl _ | refine Below.alloc ?_ ?_ _ | refine Below.setCell ?_ ?_ _ | refine Below.drew ?_ | refine below_drewN ?_ _) | refine Below.trans ?_ (Below.mono (by assumption) ?_) | exact Below.size (by assumption) | omega | go_size | (simp at *; omega)))⟩
        | true =>
          clear hq0
          go_enter Tryz.func57, Tryz.ntmps57
          go_wp2
          go_ret
          exact ⟨ret_bool (by simp only [ebL, r1, r2, r3]; rfl), (by repeat' (first | exact Below.refl _ _ | (with_reducible first | assumption | exact Nat.le_refl _ | refine Below.alloc ?_ ?_ _ | refine Below.setCell ?_ ?_ _ | refine Below.drew ?_ | refine below_drewN ?_ _) | refine Below.trans ?_ (Below.mono (by assumption) ?_) | exact Below.size (by assumption) | omega | go_size | (simp at *; omega)))⟩
  · obtain ⟨d1, d2, d3, d4⟩ := hk
    have q1 : (k == 1) = false := by simpa using d1
    have q2 : (k == 2) = false := by simpa using d2
    have q3 : (k == 3) = false := by simpa using d3
    have q4 : (k == 4) = false := by simpa using d4
    clear d1 d2 d3 d4
    cases r1 : (((n1 : Int) == 0)) with
    | false =>
      clear hq0
      go_enter Tryz.func57, Tryz.ntmps57
      go_wp2
      go_ret
      exact ⟨ret_bool (by simp only [ebL, q1, q2, q3, q4, r1]; rfl), (by repeat' (first | exact Below.refl _ _ | (with_reducible first | assumption | exact Nat.le_refl _ | refine Below.alloc ?_ ?_ _ | refine Below.setCell ?_ ?_ _ | refine Below.drew ?_ | refine below_drewN ?_ _) | refine Below.trans ?_ (Below.mono (by assumption) ?_) | exact Below.size (by assumption) | omega | go_size | (simp at *; omega)))⟩
    | true =>
      cases r2 : (((n2 : Int) == 0)) with
      | false =>
        clear hq0
        go_enter Tryz.func57, Tryz.ntmps57
        go_wp2
        go_ret
        exact ⟨ret_bool (by simp only [ebL, q1, q2, q3, q4, r1, r2]; rfl), (by repeat' (first | exact Below.refl _ _ | (with_reducible first | assumption | exact Nat.le_refl _ | refine Below.alloc ?_ ?_ _ | refine Below.setCell ?_ ?_ _ | refine Below.drew ?_ | refine below_drewN ?_ _) | refine Below.trans ?_ (Below.mono (by assumption) ?_) | exact Below.size (by assumption) | omega | go_size | (simp at *; omega)))⟩
      | true =>
        cases r3 : (((n3 : Int) == 0)) with
        | false =>
          clear hq0
          go_enter Tryz.func57, Tryz.ntmps57
          go_wp2
          go_ret
          exact ⟨ret_bool (by simp only [ebL, q1, q2, q3, q4, r1, r2, r3]; rfl), (by repeat' (first | exact Below.refl _ _ | (with_reducible first | assumption | exact Nat.le_refl _ | refine Below.alloc ?_ ?_ _ | refine Below.setCell ?_ ?_ _ | refine Below.drew ?_ | refine below_drewN ?_ _) | refine Below.trans ?_ (Below.mono (by assumption) ?_) | exact Below.size (by assumption) | omega | go_size | (simp at *; omega)))⟩
        | true =>
          cases r4 : (((n4 : Int) + (n5 : Int) == 0)) with
          | false =>
            clear hq0
            go_enter Tryz.func57, Tryz.ntmps57
            go_wp2
            go_ret
            exact ⟨ret_bool (by simp only [ebL, q1, q2, q3, q4, r1, r2, r3, r4]; rfl), (by repeat' (first | exact Below.refl _ _ | (with_reducible first | assumption | exact Nat.le_refl _ | refine Below.alloc ?_ ?_ _ | refine Below.setCell ?_ ?_ _ | refine Below.drew ?_ | refine below_drewN ?_ _) | refine Below.trans ?_ (Below.mono (by assumption) ?_) | exact Below.size (by assumption) | omega | go_size | (simp at *; omega)))⟩
          | true =>
            clear hq0
            go_enter Tryz.func57, Tryz.ntmps57
            go_wp2
            go_ret
            exact ⟨ret_bool (by simp only [ebL, q1, q2, q3, q4, r1, r2, r3, r4]; rfl), (by repeat' (first | exact Below.refl _ _ | (with_reducible first | assumption | exact Nat.le_refl _ | refine Below.alloc ?_ ?_ _ | refine Below.setCell ?_ ?_ _ | refine Below.drew ?_ | refine below_drewN ?_ _) | refine Below.trans ?_ (Below.mono (by assumption) ?_) | exact Below.size (by assumption) | omega | go_size | (simp at *; omega)))⟩
set_option maxRecDepth 100000 in
set_option maxHeartbeats 4000000 in
theorem ValidNotation_any (k : Int) (p : List Int) (m : List (List Int)) (y : List Beat) (q1 q2 : List PT) (s : Six) (w : World) (hs : NtSm (k, p, m, y, (q1, q2))) (h : NtRd (k, p, m, y, (q1, q2)) s w) :
    Calls Tryz.prog 25 #[.agg #[.int .i64 k, .slice s.A p.length s.c, .slice s.A2 m.length s.c2, .slice s.A3 y.length s.c3, .slice s.A4 q1.length s.c4, .slice s.A5 q2.length s.c5]] w fun e w' => e = .returned (.bool (ntOk (k, p, m, y, (q1, q2)))) ∧ Below w.heap.size w w' := by
  obtain ⟨A, c, A2, c2, A3, c3, A4, c4, A5, c5⟩ := s
  obtain ⟨l1, ⟨l2, l3, _⟩, l4, l5, l6⟩ := hs
  simp only at l1 l2 l3 l4 l5 l6 ⊢
  have H := fun (w1 : World) (b : Below w.heap.size w w1) => h.below b
  unfold NtRd at H
  simp only at H
  have C1 := hid (fun (w1 : World) (b : Below w.heap.size w w1) => ValidPattern_any A p.length c p w1 (by omega) (H w1 b).1)
  have C2 := hid (fun (w1 : World) (b : Below w.heap.size w w1) => ValidMulti_any A2 m.length c2 m w1 (by omega) (fun r hr => by have := l3 r hr; omega) (H w1 b).2.1)
  have C3 := hid (fun (w1 : World) (b : Below w.heap.size w w1) => ValidSync_any A3 y.length c3 y w1 (by omega) (H w1 b).2.2.1)
  have C4 := hid (fun (w1 : World) (b : Below w.heap.size w w1) => ValidPassing_any A4 A5 q1.length c4 q2.length c5 (q1, q2) w1 (by omega) (by omega) (H w1 b).2.2.2.1 (H w1 b).2.2.2.2)
  have hX := Bx.new w 33 #[.int .i64 k, .slice A p.length c, .slice A2 m.length c2, .slice A3 y.length c3, .slice A4 q1.length c4, .slice A5 q2.length c5]
  have hB0 : Below w.heap.size w (w.alloc (Obj.cells #[.int .i64 k, .slice A p.length c, .slice A2 m.length c2, .slice A3 y.length c3, .slice A4 q1.length c4, .slice A5 q2.length c5] 33)) := Below.alloc (Below.refl _ _) (Nat.le_refl _) _
  have hE := isEmptyBut_any k A A2 A3 A4 A5 p.length m.length y.length q1.length q2.length c c2 c3 c4 c5 (w.alloc (Obj.cells #[.int .i64 k, .slice A p.length c, .slice A2 m.length c2, .slice A3 y.length c3, .slice A4 q1.length c4, .slice A5 q2.length c5] 33)) (by omega) (by omega)
  obtain ⟨x, hx⟩ : ∃ x : Note, (k, p, m, y, (q1, q2)) = x := ⟨_, rfl⟩
  obtain ⟨eb, heb⟩ : ∃ eb, ebL k p.length m.length y.length q1.length q2.length = eb := ⟨_, rfl⟩
  have HEB : Hid (ebN x = eb) := by show _ = _; rw [← hx, ← heb]; rfl
  have HK : Hid (x.1 = k) := by show _ = _; rw [← hx]
  have HS1 : Hid (k = 1 → swN x = okP p) := fun h => by rw [swN_1 (by rw [HK.out, h]), ← hx]
  have HS2 : Hid (k = 2 → swN x = mOk m) := fun h => by rw [swN_2 (by rw [HK.out, h]), ← hx]
  have HS3 : Hid (k = 3 → swN x = syOk y) := fun h => by rw [swN_3 (by rw [HK.out, h]), ← hx]
  have HS4 : Hid (k = 4 → swN x = psOk (q1, q2)) := fun h => by rw [swN_4 (by rw [HK.out, h]), ← hx]
  rw [heb] at hE
  rw [hx]
  have hE := hid hE
  have HX := hid hX
  have HB0 := hid hB0
  clear heb H h hX hB0 hx
  go_enter Tryz.func25, Tryz.ntmps25
  go_wp2_with fail
  refine hE.out.mono ?_
  rintro e w1 ⟨rfl, hb1⟩
  have hB1 := bchain HB0.out hb1
  have hX1 := HX.out.below hb1 HX.out.lt
  obtain ⟨⟨a0, a1, a2, a3, a4, a5⟩, -⟩ := zc hX1
  have hl1 := hX1.lt
  clear hE HX HB0 hb1 hX1
  cases eb
  · have HZ := hid (ntOk_no HEB.out)
    clear C1 C2 C3 C4 HEB HK HS1 HS2 HS3 HS4
    go_wp2
    go_ret
    exact ⟨ret_bool HZ.out.symm, hB1⟩
  · have HZ := hid (ntOk_yes HEB.out)
    have hk : k = 1 ∨ k = 2 ∨ k = 3 ∨ k = 4 ∨ (k ≠ 1 ∧ k ≠ 2 ∧ k ≠ 3 ∧ k ≠ 4) := by omega
    rcases hk with rfl | rfl | rfl | rfl | ⟨d1, d2, d3, d4⟩
    · have HR : Hid (ntOk x = okP p) := by show _ = _; rw [HZ.out, HS1.out rfl]
      clear C2 C3 C4 HEB HK HS1 HS2 HS3 HS4 HZ
      go_wp2_with fail
      refine (C1.out w1 hB1).mono ?_
      rintro e w2 ⟨rfl, hb2⟩
      have hB2 := bchain hB1 hb2
      clear C1 hb2 a0 a1 a2 a3 a4 a5
      go_wp2
      go_ret
      exact ⟨ret_bool HR.out.symm, hB2⟩
    · have HR : Hid (ntOk x = mOk m) := by show _ = _; rw [HZ.out, HS2.out rfl]
      clear C1 C3 C4 HEB HK HS1 HS2 HS3 HS4 HZ
      go_wp2_with fail
      refine (C2.out w1 hB1).mono ?_
      rintro e w2 ⟨rfl, hb2⟩
      have hB2 := bchain hB1 hb2
      clear C2 hb2 a0 a1 a2 a3 a4 a5
      go_wp2
      go_ret
      exact ⟨ret_bool HR.out.symm, hB2⟩
    · have HR : Hid (ntOk x = syOk y) := by show _ = _; rw [HZ.out, HS3.out rfl]
      clear C1 C2 C4 HEB HK HS1 HS2 HS3 HS4 HZ
      go_wp2_with fail
      refine (C3.out w1 hB1).mono ?_
      rintro e w2 ⟨rfl, hb2⟩
      have hB2 := bchain hB1 hb2
      clear C3 hb2 a0 a1 a2 a3 a4 a5
      go_wp2
      go_ret
      exact ⟨ret_bool HR.out.symm, hB2⟩
    · have HR : Hid (ntOk x = psOk (q1, q2)) := by show _ = _; rw [HZ.out, HS4.out rfl]
      clear C1 C2 C3 HEB HK HS1 HS2 HS3 HS4 HZ
      go_wp2_with fail
      refine (C4.out w1 hB1).mono ?_
      rintro e w2 ⟨rfl, hb2⟩
      have hB2 := bchain hB1 hb2
      clear C4 hb2 a0 a1 a2 a3 a4 a5
      go_wp2
      go_ret
      exact ⟨ret_bool HR.out.symm, hB2⟩
    · have HR : Hid (ntOk x = false) := by show _ = _; rw [HZ.out, swN_0 (by rw [HK.out]; exact d1) (by rw [HK.out]; exact d2) (by rw [HK.out]; exact d3) (by rw [HK.out]; exact d4)]
      have e1 : (k == 1) = false := by simpa using d1
      have e2 : (k == 2) = false := by simpa using d2
      have e3 : (k == 3) = false := by simpa using d3
      have e4 : (k == 4) = false := by simpa using d4
      clear C1 C2 C3 C4 HEB HK HS1 HS2 HS3 HS4 HZ d1 d2 d3 d4
      go_wp2
      go_ret
      exact ⟨ret_bool HR.out.symm, hB1⟩
end Go.Proofs.YtgphkfnobmponaaGreat

/- Contracts of the functions that read texts of passing patterns. -/
namespace Go.Proofs.YtgphkfnobmponaaGreat
open Go.RowKit
set_option linter.unusedVariables false

theorem own_formA {w : World} {base e sz n : Nat} {v : Value} {xs : List Value} (h : w.ownsRow base e sz v n xs) : ∃ A c, v = .slice A n c ∧ (A = none → c = 0) := by
  rcases h.2 with ⟨rfl, rfl⟩ | ⟨g, cap, cur, rfl, hge, hh, r⟩
  · exact ⟨none, 0, rfl, fun _ => rfl⟩
  · exact ⟨_, _, rfl, fun h => (by cases h)⟩
theorem inf_pt : (Tryz.prog.info? 83).map (fun i => (i.zero, i.size, i.bytes)) = some (some (.agg #[.int .i64 0, .bool false]), 2, 16) := by kernel_rfl
/-- Throws that are read, of the call's own, and whether they are such. -/
def RpRes (B : Nat) (r : Option (List PT)) (e : Ending) (w : World) : Prop := ∃ (q : List PT) (A : Option Addr) (c : Nat), (A = none → c = 0) ∧ q.length ≤ 9 ∧ e = .returned (.tuple #[.slice A q.length c, .bool r.isSome]) ∧ w.ownsRow B 83 2 (.slice A q.length c) q.length (ths q) ∧ ∀ q', r = some q' → q' = q
theorem RpRes.no (B : Nat) (w : World) : RpRes B none (.returned (.tuple #[.slice none 0 0, .bool false])) w := ⟨[], none, 0, fun _ => rfl, by simp, rfl, World.ownsRow_nil _ _ _ _, fun q h => by cases h⟩
theorem RpRes.mk {B : Nat} {w : World} {v : Value} {q : List PT} {r : Option (List PT)} {b : Bool} (hq : q.length ≤ 9) (h : w.ownsRow B 83 2 v q.length (ths q)) (hb : r.isSome = b) (hr : ∀ q', r = some q' → q' = q) : RpRes B r (.returned (.tuple #[v, .bool b])) w := by
  obtain ⟨A, c, rfl, hA⟩ := own_formA h
  exact ⟨q, A, c, hA, hq, by rw [hb], h, hr⟩
/-- What is still to be read, behind what has been. -/
def pR (q : List PT) (ps : List (List UInt8)) : Option (List PT) := if q.length + ps.length ≤ 9 then (rdPs ps).map (q ++ ·) else none
def rdJ9 (l : List UInt8) : Option (List PT) := if (splitL 32 l).length ≤ 9 then rdJ l else none
theorem pR_start (l : List UInt8) : pR [] (splitL 32 l) = rdJ9 l := by
  unfold pR rdJ9 rdJ
  rw [List.length_nil, Nat.zero_add]
  split
  · cases rdPs (splitL 32 l) <;> rfl
  · rfl
theorem split_head (c : UInt8) (l : List UInt8) : ∃ r, splitL c l = (cutL c l).1 :: r := by
  rw [splitL_cut]
  split
  · exact ⟨_, rfl⟩
  · rcases cutL_spec c l with h | h
    · rename_i hn; exact absurd h.1 hn
    · exact ⟨[], by rw [h.2.2.1]⟩
theorem pR_bad {out : List PT} {l : List UInt8} {R : Option (List PT)} (h : pR out (splitL 32 l) = R) (ho : rdP (cutL 32 l).1 = none) : R = none := by
  obtain ⟨r, hr⟩ := split_head 32 l
  rw [← h, pR, hr, rdPs, ho]
  split <;> rfl
theorem pR_more {out : List PT} {l : List UInt8} {R : Option (List PT)} {x : PT} (h : pR out (splitL 32 l) = R) (hf : (cutL 32 l).2.2 = true) (ho : rdP (cutL 32 l).1 = some x) : pR (out ++ [x]) (splitL 32 (cutL 32 l).2.1) = R := by
  rw [← h, splitL_cut 32 l, if_pos hf, pR, pR, List.length_append, List.length_singleton, List.length_cons, rdPs, ho]
  rw [show out.length + 1 + (splitL 32 (cutL 32 l).2.1).length = out.length + ((splitL 32 (cutL 32 l).2.1).length + 1) by omega]
  split
  · cases rdPs (splitL 32 (cutL 32 l).2.1) with
    | none => rfl
    | some q => simp
  · rfl
theorem pR_end {out : List PT} {l : List UInt8} {R : Option (List PT)} {x : PT} (h : pR out (splitL 32 l) = R) (hf : (cutL 32 l).2.2 = false) (ho : rdP (cutL 32 l).1 = some x) (hl : out.length ≤ 8) : R = some (out ++ [x]) := by
  rcases cutL_spec 32 l with h1 | h1
  · rw [h1.1] at hf; cases hf
  · rw [h1.2.2.1] at ho
    rw [← h, splitL_cut, if_neg (by rw [hf]; decide), pR, if_pos (by simp; omega), rdPs, ho]
    rfl
theorem pR_full {out : List PT} {l : List UInt8} {R : Option (List PT)} (h : pR out (splitL 32 l) = R) (hl : out.length = 9) : R = none := by
  have := splitL_ne 32 l
  rw [← h, pR, if_neg (by omega)]
theorem pcut_shorter {c : UInt8} {r : List UInt8} (hf : (cutL c r).2.2 = true) : (cutL c r).2.1.length < r.length := by
  rcases cutL_spec c r with h | h
  · have := congrArg List.length h.2.1
    simp at this
    omega
  · rw [hf] at h; cases h.1
theorem pcut_size (c : UInt8) (l : List UInt8) : (cutL c l).1.length ≤ l.length ∧ (cutL c l).2.1.length ≤ l.length := by
  rcases cutL_spec c l with h | h
  · have := congrArg List.length h.2.1
    simp at this
    omega
  · rw [h.2.2.1, h.2.2.2]; simp
theorem rdP_one {l : List UInt8} {x : UInt8} (h : l = [x]) : rdP l = if 0 ≤ rDig (x.toNat : Int) then some (rDig (x.toNat : Int), false) else none := by subst h; rfl
theorem rdP_two {l : List UInt8} {x : UInt8} (h : l = [x, 112]) : rdP l = if 0 ≤ rDig (x.toNat : Int) then some (rDig (x.toNat : Int), true) else none := by subst h; rfl
theorem rdP_else {l : List UInt8} (h1 : ∀ x, l ≠ [x]) (h2 : ∀ x, l ≠ [x, 112]) : rdP l = none := by
  unfold rdP
  split
  · rename_i c; exact absurd rfl (h1 c)
  · rename_i c x
    by_cases hx : x = 112
    · subst hx; exact absurd rfl (h2 c)
    · rw [if_neg hx]
  · rfl
set_option maxRecDepth 100000 in
set_option maxHeartbeats 1000000 in
theorem readPasses_any (s : ByteArray) (w : World) (hs : s.size ≤ 1099511627776) :
    Calls Tryz.prog 108 #[.string s] w fun e w' => RpRes w.heap.size (rdJ9 (tl s)) e w' ∧ Below w.heap.size w w' := by
  rw [← pR_start]
  obtain ⟨R, hR⟩ : ∃ R, pR [] (splitL 32 (tl s)) = R := ⟨_, rfl⟩
  rw [hR]
  have hst := hid hR
  clear hR
  go_enter Tryz.func108, Tryz.ntmps108
  go_wp2
  go_loopw [0, 4] (fun u v wr => Hid (∃ (t : ByteArray) (out : List PT), u = .string t ∧ t.size ≤ 1099511627776 ∧ out.length ≤ 9 ∧ Hid (pR out (splitL 32 (tl t)) = R) ∧ wr.ownsRow w.heap.size 83 2 v out.length (ths out) ∧ Below w.heap.size w wr)) (fun u _ _ => match u with | .string t => t.size | _ => 0)
  case atStart => exact hid ⟨s, [], rfl, hs, by simp, hst, World.ownsRow_lit _ _ 0 (Nat.le_refl _) (by simp [maxLen]) rfl, (by repeat' (first | exact Below.refl _ _ | (with_reducible first | assumption | exact Nat.le_refl _ | refine Below.alloc ?_ ?_ _ | refine Below.setCell ?_ ?_ _ | refine Below.drew ?_ | refine below_drewN ?_ _) | refine Below.trans ?_ (Below.mono (by assumption) ?_) | exact Below.size (by assumption) | omega | go_size | (simp at *; omega)))⟩
  case round =>
    obtain ⟨t, out, rfl, ht, hol, hR, ho, hb0⟩ := hrel.out
    clear hrel
    have hz := hb0.size
    obtain ⟨A, c, rfl⟩ := own_form ho
    by_cases h9 : out.length = 9
    · have HZ := hid (pR_full hR.out h9)
      have hq : ¬ (out.length : Int) ≤ 8 := by omega
      clear hR h9
      go_wp2
      go_ret2
      exact ⟨by rw [HZ.out]; exact RpRes.no _ _, hb0⟩
    · have h8 : out.length ≤ 8 := by omega
      have hq : (out.length : Int) ≤ 8 := by omega
      have hC := cut_any t 32 wr ht
      have hcz := pcut_size 32 (tl t)
      have hcs := hid (fun hf => pcut_shorter (c := 32) (r := tl t) hf)
      have HB := hid (fun ho => pR_bad hR.out ho)
      have HM := hid (fun (x : PT) hf ho => pR_more (x := x) hR.out hf ho)
      have HE := hid (fun (x : PT) hf ho => pR_end (x := x) hR.out hf ho h8)
      rw [tl_len] at hcz hcs
      generalize cutL 32 (tl t) = ct at *
      obtain ⟨c1, c2, f⟩ := ct
      simp only at hcz hcs HB HM HE
      have hC := hid hC
      clear hR h9
      go_wp2_with fail
      refine hC.out.mono ?_
      rintro e w1 ⟨⟨own, rest, rfl, hown, hrest⟩, hb1⟩
      have hB1 := bchain hb0 hb1
      have ho1 := own_below ho hb1
      have hoz : own.size ≤ 1099511627776 := by rw [← tl_len, hown]; simp only; omega
      have hrz : rest.size = c2.length := by rw [← tl_len, hrest]
      simp only at hown hrest
      rw [← hown] at HB HM HE
      have HRT := hid hrest
      have hz1 := hB1.size
      have HO4 := hid (fun o => ho1.alloc o)
      clear hC ho hb1 hown hrest
      by_cases h2 : own.size = 2
      · have hx := tl_two h2
        have hq3 : ((own.size : Int) == 2) = true := by simp; omega
        have hi : (1 : Int) < (own.size : Int) := by omega
        have hi2 : (1 : Int) ≤ (own.size : Int) := by omega
        by_cases hx1 : own[1]'(by omega) = 112
        · rw [hx1] at hx
          have hq4 : (((own[1]'(by omega)).toNat : Int) == 112) = true := by rw [hx1]; rfl
          obtain ⟨sub, hsub⟩ : ∃ sub, own.extract 0 1 = sub := ⟨_, rfl⟩
          have hsz : sub.size = 1 := by rw [← hsub, ByteArray.size_extract]; omega
          have hs0 := one_first hx hsub hsz
          obtain ⟨x, hxx⟩ : ∃ x, own[0]'(by omega) = x := ⟨_, rfl⟩
          rw [hxx] at hx hs0
          have hH := hid (fun w1 => hexOf_any (x.toNat : Int) (by omega) (by have := x.toNat_lt; omega) w1)
          have hP := rdP_two hx
          have hlow := @rDig_low (x.toNat : Int)
          obtain ⟨dg, hdg⟩ : ∃ dg, rDig (x.toNat : Int) = dg := ⟨_, rfl⟩
          rw [hdg] at hP hH hlow
          clear hx hx1 hxx hdg
          by_cases hd : 0 ≤ dg
          · rw [if_pos hd] at hP
            have hq5 : ¬ dg < 0 := by omega
            rw [hP] at HB HM HE
            cases f with
            | false =>
              have HZ := hid (HE.out _ rfl rfl)
              clear hP HB HM HE hcs
              go_wp2_with (first | (go_at_call 35; refine (hH.out _).mono ?_; rintro e w' ⟨rfl, rfl⟩) | (at_builtin; refine push_th rfl inf_pt (by omega) (HO4.out _) dg true _ rfl _ _ rfl rfl rfl (by first | rfl | simp) (by omega) (by simp; omega) ?_; intro v5 w5 ho5 hb5 hg5))
              go_ret2
              exact ⟨RpRes.mk (by rw [List.length_append, List.length_singleton]; omega) ho5 (by rw [HZ.out]; rfl) (fun q' h => by rw [HZ.out] at h; injection h with h; exact h.symm), (by repeat' (first | exact Below.refl _ _ | (with_reducible first | assumption | exact Nat.le_refl _ | refine Below.alloc ?_ ?_ _ | refine Below.setCell ?_ ?_ _ | refine Below.drew ?_ | refine below_drewN ?_ _) | refine Below.trans ?_ (Below.mono (by assumption) ?_) | exact Below.size (by assumption) | omega | go_size | (simp at *; omega)))⟩
            | true =>
              have HNX := hid (HM.out _ rfl rfl)
              have hcs2 := hcs.out rfl
              clear hP HB HM HE hcs
              go_wp2_with (first | (go_at_call 35; refine (hH.out _).mono ?_; rintro e w' ⟨rfl, rfl⟩) | (at_builtin; refine push_th rfl inf_pt (by omega) (HO4.out _) dg true _ rfl _ _ rfl rfl rfl (by first | rfl | simp) (by omega) (by simp; omega) ?_; intro v5 w5 ho5 hb5 hg5))
              go_roundw
              case rel => exact hid ⟨rest, out ++ [(dg, true)], rfl, by omega, by rw [List.length_append, List.length_singleton]; omega, hid (by rw [HRT.out]; exact HNX.out), ho5, (by repeat' (first | exact Below.refl _ _ | (with_reducible first | assumption | exact Nat.le_refl _ | refine Below.alloc ?_ ?_ _ | refine Below.setCell ?_ ?_ _ | refine Below.drew ?_ | refine below_drewN ?_ _) | refine Below.trans ?_ (Below.mono (by assumption) ?_) | exact Below.size (by assumption) | omega | go_size | (simp at *; omega)))⟩
              case measure => simp; omega
          · rw [if_neg hd] at hP
            have hq5 : dg < 0 := by omega
            have HZ := hid (HB.out hP)
            clear hP HB HM HE hlow
            go_wp2_with (go_at_call 35; refine (hH.out _).mono ?_; rintro e w' ⟨rfl, rfl⟩)
            go_ret2
            exact ⟨by rw [HZ.out]; exact RpRes.no _ _, (by repeat' (first | exact Below.refl _ _ | (with_reducible first | assumption | exact Nat.le_refl _ | refine Below.alloc ?_ ?_ _ | refine Below.setCell ?_ ?_ _ | refine Below.drew ?_ | refine below_drewN ?_ _) | refine Below.trans ?_ (Below.mono (by assumption) ?_) | exact Below.size (by assumption) | omega | go_size | (simp at *; omega)))⟩
        · have hq4 : (((own[1]'(by omega)).toNat : Int) == 112) = false := by
            simp only [beq_eq_false_iff_ne, ne_eq]
            intro e
            exact hx1 (UInt8.toNat_inj.1 (by have e : (own[1]'(by omega)).toNat = 112 := by omega
                                             rw [e]; rfl))
          have hq5 : ((own.size : Int) != 1) = true := by simp; omega
          have HZ := hid (HB.out (rdP_else (fun x h => by rw [hx] at h; cases h) (fun x h => by rw [hx] at h; injection h with _ h; injection h with h _; exact hx1 h)))
          clear hx hx1 HB HM HE
          go_wp2
          go_ret2
          exact ⟨by rw [HZ.out]; exact RpRes.no _ _, (by repeat' (first | exact Below.refl _ _ | (with_reducible first | assumption | exact Nat.le_refl _ | refine Below.alloc ?_ ?_ _ | refine Below.setCell ?_ ?_ _ | refine Below.drew ?_ | refine below_drewN ?_ _) | refine Below.trans ?_ (Below.mono (by assumption) ?_) | exact Below.size (by assumption) | omega | go_size | (simp at *; omega)))⟩
      · have hq3 : ((own.size : Int) == 2) = false := by simp; omega
        by_cases h1 : own.size = 1
        · have hx := tl_one h1
          have hq4 : ((own.size : Int) != 1) = false := by simp; omega
          have hi : (0 : Int) < (own.size : Int) := by omega
          obtain ⟨x, hxx⟩ : ∃ x, own[0]'(by omega) = x := ⟨_, rfl⟩
          rw [hxx] at hx
          have hH := hid (fun w1 => hexOf_any (x.toNat : Int) (by omega) (by have := x.toNat_lt; omega) w1)
          have hP := rdP_one hx
          obtain ⟨dg, hdg⟩ : ∃ dg, rDig (x.toNat : Int) = dg := ⟨_, rfl⟩
          rw [hdg] at hP hH
          clear hx hdg
          by_cases hd : 0 ≤ dg
          · rw [if_pos hd] at hP
            have hq5 : ¬ dg < 0 := by omega
            rw [hP] at HB HM HE
            cases f with
            | false =>
              have HZ := hid (HE.out _ rfl rfl)
              clear hP HB HM HE hcs
              go_wp2_with (first | (go_at_call 35; refine (hH.out _).mono ?_; rintro e w' ⟨rfl, rfl⟩) | (at_builtin; refine push_th rfl inf_pt (by omega) (HO4.out _) dg false _ rfl _ _ rfl rfl rfl (by first | rfl | simp) (by omega) (by simp; omega) ?_; intro v5 w5 ho5 hb5 hg5))
              go_ret2
              exact ⟨RpRes.mk (by rw [List.length_append, List.length_singleton]; omega) ho5 (by rw [HZ.out]; rfl) (fun q' h => by rw [HZ.out] at h; injection h with h; exact h.symm), (by repeat' (first | exact Below.refl _ _ | (with_reducible first | assumption | exact Nat.le_refl _ | refine Below.alloc ?_ ?_ _ | refine Below.setCell ?_ ?_ _ | refine Below.drew ?_ | refine below_drewN ?_ _) | refine Below.trans ?_ (Below.mono (by assumption) ?_) | exact Below.size (by assumption) | omega | go_size | (simp at *; omega)))⟩
            | true =>
              have HNX := hid (HM.out _ rfl rfl)
              have hcs2 := hcs.out rfl
              clear hP HB HM HE hcs
              go_wp2_with (first | (go_at_call 35; refine (hH.out _).mono ?_; rintro e w' ⟨rfl, rfl⟩) | (at_builtin; refine push_th rfl inf_pt (by omega) (HO4.out _) dg false _ rfl _ _ rfl rfl rfl (by first | rfl | simp) (by omega) (by simp; omega) ?_; intro v5 w5 ho5 hb5 hg5))
              go_roundw
              case rel => exact hid ⟨rest, out ++ [(dg, false)], rfl, by omega, by rw [List.length_append, List.length_singleton]; omega, hid (by rw [HRT.out]; exact HNX.out), ho5, (by repeat' (first | exact Below.refl _ _ | (with_reducible first | assumption | exact Nat.le_refl _ | refine Below.alloc ?_ ?_ _ | refine Below.setCell ?_ ?_ _ | refine Below.drew ?_ | refine below_drewN ?_ _) | refine Below.trans ?_ (Below.mono (by assumption) ?_) | exact Below.size (by assumption) | omega | go_size | (simp at *; omega)))⟩
              case measure => simp; omega
          · rw [if_neg hd] at hP
            have hq5 : dg < 0 := by omega
            have HZ := hid (HB.out hP)
            clear hP HB HM HE
            go_wp2_with (go_at_call 35; refine (hH.out _).mono ?_; rintro e w' ⟨rfl, rfl⟩)
            go_ret2
            exact ⟨by rw [HZ.out]; exact RpRes.no _ _, (by repeat' (first | exact Below.refl _ _ | (with_reducible first | assumption | exact Nat.le_refl _ | refine Below.alloc ?_ ?_ _ | refine Below.setCell ?_ ?_ _ | refine Below.drew ?_ | refine below_drewN ?_ _) | refine Below.trans ?_ (Below.mono (by assumption) ?_) | exact Below.size (by assumption) | omega | go_size | (simp at *; omega)))⟩
        · have hq4 : ((own.size : Int) != 1) = true := by simp; omega
          have hll := tl_len own
          have HZ := hid (HB.out (rdP_else (fun x h => by rw [h] at hll; simp at hll; omega) (fun x h => by rw [h] at hll; simp at hll; omega)))
          clear hll HB HM HE
          go_wp2
          go_ret2
          exact ⟨by rw [HZ.out]; exact RpRes.no _ _, (by repeat' (first | exact Below.refl _ _ | (with_reducible first | assumption | exact Nat.le_refl _ | refine Below.alloc ?_ ?_ _ | refine Below.setCell ?_ ?_ _ | refine Below.drew ?_ | refine below_drewN ?_ _) | refine Below.trans ?_ (Below.mono (by assumption) ?_) | exact Below.size (by assumption) | omega | go_size | (simp at *; omega)))⟩
end Go.Proofs.YtgphkfnobmponaaGreat
