/- Contracts of the program's checks of notations. -/
import Derived.Test.YtkglkpohbckpcaaNt
import Derived.Test.YtkglkpohbckpcaaNk
import Derived.Test.YtkglkpohbckpcaaQc
import Derived.Test.YtkglkpohbckpcaaYd
import Derived.Test.YtkglkpohbckpcaaNqa
namespace Go.Proofs.Ytkglkpohbckpcaa
open Go.RowKit
set_option linter.unusedVariables false

set_option maxRecDepth 100000 in
set_option maxHeartbeats 8000000 in
theorem isEmptyBut_any (k : Int) (A A2 A3 A4 A5 : Option Addr) (n1 n2 n3 n4 n5 c c2 c3 c4 c5 : Nat) (w : World) (h4 : n4 ≤ 1099511627776) (h5 : n5 ≤ 1099511627776) :
    Calls Try.prog 89 #[.agg #[.int .i64 k, .slice A n1 c, .slice A2 n2 c2, .slice A3 n3 c3, .slice A4 n4 c4, .slice A5 n5 c5]] w fun e w' => e = .returned (.bool (ebL k n1 n2 n3 n4 n5)) ∧ Below w.heap.size w w' := by
  have hk : k = 1 ∨ k = 2 ∨ k = 3 ∨ k = 4 ∨ (k ≠ 1 ∧ k ≠ 2 ∧ k ≠ 3 ∧ k ≠ 4) := by omega
  have hq0 := True.intro
  rcases hk with hk | hk | hk | hk | hk
  · subst hk
    cases r2 : (((n2 : Int) == 0)) with
    | false =>
      clear hq0
      go_enter Try.func89, Try.ntmps89
      go_wp2
      go_ret
      exact ⟨ret_bool (by simp only [ebL, r2]; rfl), (by repeat' (first | exact Below.refl _ _ | (with_reducible assumption) | (with_reducible refine Below.alloc ?_ ?_ _) | (with_reducible refine Below.setCell ?_ ?_ _) | (with_reducible refine Below.drew ?_) | (with_reducible refine below_drewN ?_ _) | (refine Below.trans ?_ (Below.mono (by assumption) ?_)) | (with_reducible exact Nat.le_refl _) | (with_reducible assumption) | (exact Below.size (by assumption)) | omega | go_size | (simp at *; omega)))⟩
    | true =>
      cases r3 : (((n3 : Int) == 0)) with
      | false =>
        clear hq0
        go_enter Try.func89, Try.ntmps89
        go_wp2
        go_ret
        exact ⟨ret_bool (by simp only [ebL, r2, r3]; rfl), (by repeat' (first | exact Below.refl _ _ | (with_reducible assumption) | (with_reducible refine Below.alloc ?_ ?_ _) | (with_reducible refine Below.setCell ?_ ?_ _) | (with_reducible refine Below.drew ?_) | (with_reducible refine below_drewN ?_ _) | (refine Below.trans ?_ (Below.mono (by assumption) ?_)) | (with_reducible exact Nat.le_refl _) | (with_reducible assumption) | (exact Below.size (by assumption)) | omega | go_size | (simp at *; omega)))⟩
      | true =>
        cases r4 : (((n4 : Int) + (n5 : Int) == 0)) with
        | false =>
          clear hq0
          go_enter Try.func89, Try.ntmps89
          go_wp2
          go_ret
          exact ⟨ret_bool (by simp only [ebL, r2, r3, r4]; rfl), (by repeat' (first | exact Below.refl _ _ | (with_reducible assumption) | (with_reducible refine Below.alloc ?_ ?_ _) | (with_reducible refine Below.setCell ?_ ?_ _) | (with_reducible refine Below.drew ?_) | (with_reducible refine below_drewN ?_ _) | (refine Below.trans ?_ (Below.mono (by assumption) ?_)) | (with_reducible exact Nat.le_refl _) | (with_reducible assumption) | (exact Below.size (by assumption)) | omega | go_size | (simp at *; omega)))⟩
        | true =>
          clear hq0
          go_enter Try.func89, Try.ntmps89
          go_wp2
          go_ret
          exact ⟨ret_bool (by simp only [ebL, r2, r3, r4]; rfl), (by repeat' (first | exact Below.refl _ _ | (with_reducible assumption) | (with_reducible refine Below.alloc ?_ ?_ _) | (with_reducible refine Below.setCell ?_ ?_ _) | (with_reducible refine Below.drew ?_) | (with_reducible refine below_drewN ?_ _) | (refine Below.trans ?_ (Below.mono (by assumption) ?_)) | (with_reducible exact Nat.le_refl _) | (with_reducible assumption) | (exact Below.size (by assumption)) | omega | go_size | (simp at *; omega)))⟩
  · subst hk
    cases r1 : (((n1 : Int) == 0)) with
    | false =>
      clear hq0
      go_enter Try.func89, Try.ntmps89
      go_wp2
      go_ret
      exact ⟨ret_bool (by simp only [ebL, r1]; rfl), (by repeat' (first | exact Below.refl _ _ | (with_reducible assumption) | (with_reducible refine Below.alloc ?_ ?_ _) | (with_reducible refine Below.setCell ?_ ?_ _) | (with_reducible refine Below.drew ?_) | (with_reducible refine below_drewN ?_ _) | (refine Below.trans ?_ (Below.mono (by assumption) ?_)) | (with_reducible exact Nat.le_refl _) | (with_reducible assumption) | (exact Below.size (by assumption)) | omega | go_size | (simp at *; omega)))⟩
    | true =>
      cases r3 : (((n3 : Int) == 0)) with
      | false =>
        clear hq0
        go_enter Try.func89, Try.ntmps89
        go_wp2
        go_ret
        exact ⟨ret_bool (by simp only [ebL, r1, r3]; rfl), (by repeat' (first | exact Below.refl _ _ | (with_reducible assumption) | (with_reducible refine Below.alloc ?_ ?_ _) | (with_reducible refine Below.setCell ?_ ?_ _) | (with_reducible refine Below.drew ?_) | (with_reducible refine below_drewN ?_ _) | (refine Below.trans ?_ (Below.mono (by assumption) ?_)) | (with_reducible exact Nat.le_refl _) | (with_reducible assumption) | (exact Below.size (by assumption)) | omega | go_size | (simp at *; omega)))⟩
      | true =>
        cases r4 : (((n4 : Int) + (n5 : Int) == 0)) with
        | false =>
          clear hq0
          go_enter Try.func89, Try.ntmps89
          go_wp2
          go_ret
          exact ⟨ret_bool (by simp only [ebL, r1, r3, r4]; rfl), (by repeat' (first | exact Below.refl _ _ | (with_reducible assumption) | (with_reducible refine Below.alloc ?_ ?_ _) | (with_reducible refine Below.setCell ?_ ?_ _) | (with_reducible refine Below.drew ?_) | (with_reducible refine below_drewN ?_ _) | (refine Below.trans ?_ (Below.mono (by assumption) ?_)) | (with_reducible exact Nat.le_refl _) | (with_reducible assumption) | (exact Below.size (by assumption)) | omega | go_size | (simp at *; omega)))⟩
        | true =>
          clear hq0
          go_enter Try.func89, Try.ntmps89
          go_wp2
          go_ret
          exact ⟨ret_bool (by simp only [ebL, r1, r3, r4]; rfl), (by repeat' (first | exact Below.refl _ _ | (with_reducible assumption) | (with_reducible refine Below.alloc ?_ ?_ _) | (with_reducible refine Below.setCell ?_ ?_ _) | (with_reducible refine Below.drew ?_) | (with_reducible refine below_drewN ?_ _) | (refine Below.trans ?_ (Below.mono (by assumption) ?_)) | (with_reducible exact Nat.le_refl _) | (with_reducible assumption) | (exact Below.size (by assumption)) | omega | go_size | (simp at *; omega)))⟩
  · subst hk
    cases r1 : (((n1 : Int) == 0)) with
    | false =>
      clear hq0
      go_enter Try.func89, Try.ntmps89
      go_wp2
      go_ret
      exact ⟨ret_bool (by simp only [ebL, r1]; rfl), (by repeat' (first | exact Below.refl _ _ | (with_reducible assumption) | (with_reducible refine Below.alloc ?_ ?_ _) | (with_reducible refine Below.setCell ?_ ?_ _) | (with_reducible refine Below.drew ?_) | (with_reducible refine below_drewN ?_ _) | (refine Below.trans ?_ (Below.mono (by assumption) ?_)) | (with_reducible exact Nat.le_refl _) | (with_reducible assumption) | (exact Below.size (by assumption)) | omega | go_size | (simp at *; omega)))⟩
    | true =>
      cases r2 : (((n2 : Int) == 0)) with
      | false =>
        clear hq0
        go_enter Try.func89, Try.ntmps89
        go_wp2
        go_ret
        exact ⟨ret_bool (by simp only [ebL, r1, r2]; rfl), (by repeat' (first | exact Below.refl _ _ | (with_reducible assumption) | (with_reducible refine Below.alloc ?_ ?_ _) | (with_reducible refine Below.setCell ?_ ?_ _) | (with_reducible refine Below.drew ?_) | (with_reducible refine below_drewN ?_ _) | (refine Below.trans ?_ (Below.mono (by assumption) ?_)) | (with_reducible exact Nat.le_refl _) | (with_reducible assumption) | (exact Below.size (by assumption)) | omega | go_size | (simp at *; omega)))⟩
      | true =>
        cases r4 : (((n4 : Int) + (n5 : Int) == 0)) with
        | false =>
          clear hq0
          go_enter Try.func89, Try.ntmps89
          go_wp2
          go_ret
          exact ⟨ret_bool (by simp only [ebL, r1, r2, r4]; rfl), (by repeat' (first | exact Below.refl _ _ | (with_reducible assumption) | (with_reducible refine Below.alloc ?_ ?_ _) | (with_reducible refine Below.setCell ?_ ?_ _) | (with_reducible refine Below.drew ?_) | (with_reducible refine below_drewN ?_ _) | (refine Below.trans ?_ (Below.mono (by assumption) ?_)) | (with_reducible exact Nat.le_refl _) | (with_reducible assumption) | (exact Below.size (by assumption)) | omega | go_size | (simp at *; omega)))⟩
        | true =>
          clear hq0
          go_enter Try.func89, Try.ntmps89
          go_wp2
          go_ret
          exact ⟨ret_bool (by simp only [ebL, r1, r2, r4]; rfl), (by repeat' (first | exact Below.refl _ _ | (with_reducible assumption) | (with_reducible refine Below.alloc ?_ ?_ _) | (with_reducible refine Below.setCell ?_ ?_ _) | (with_reducible refine Below.drew ?_) | (with_reducible refine below_drewN ?_ _) | (refine Below.trans ?_ (Below.mono (by assumption) ?_)) | (with_reducible exact Nat.le_refl _) | (with_reducible assumption) | (exact Below.size (by assumption)) | omega | go_size | (simp at *; omega)))⟩
  · subst hk
    cases r1 : (((n1 : Int) == 0)) with
    | false =>
      clear hq0
      go_enter Try.func89, Try.ntmps89
      go_wp2
      go_ret
      exact ⟨ret_bool (by simp only [ebL, r1]; rfl), (by repeat' (first | exact Below.refl _ _ | (with_reducible assumption) | (with_reducible refine Below.alloc ?_ ?_ _) | (with_reducible refine Below.setCell ?_ ?_ _) | (with_reducible refine Below.drew ?_) | (with_reducible refine below_drewN ?_ _) | (refine Below.trans ?_ (Below.mono (by assumption) ?_)) | (with_reducible exact Nat.le_refl _) | (with_reducible assumption) | (exact Below.size (by assumption)) | omega | go_size | (simp at *; omega)))⟩
    | true =>
      cases r2 : (((n2 : Int) == 0)) with
      | false =>
        clear hq0
        go_enter Try.func89, Try.ntmps89
        go_wp2
        go_ret
        exact ⟨ret_bool (by simp only [ebL, r1, r2]; rfl), (by repeat' (first | exact Below.refl _ _ | (with_reducible assumption) | (with_reducible refine Below.alloc ?_ ?_ _) | (with_reducible refine Below.setCell ?_ ?_ _) | (with_reducible refine Below.drew ?_) | (with_reducible refine below_drewN ?_ _) | (refine Below.trans ?_ (Below.mono (by assumption) ?_)) | (with_reducible exact Nat.le_refl _) | (with_reducible assumption) | (exact Below.size (by assumption)) | omega | go_size | (simp at *; omega)))⟩
      | true =>
        cases r3 : (((n3 : Int) == 0)) with
        | false =>
          clear hq0
          go_enter Try.func89, Try.ntmps89
          go_wp2
          go_ret
          exact ⟨ret_bool (by simp only [ebL, r1, r2, r3]; rfl), (by repeat' (first | exact Below.refl _ _ | (with_reducible assumption) | (with_reducible refine Below.alloc ?_ ?_ _) | (with_reducible refine Below.setCell ?_ ?_ _) | (with_reducible refine Below.drew ?_) | (with_reducible refine below_drewN ?_ _) | (refine Below.trans ?_ (Below.mono (by assumption) ?_)) | (with_reducible exact Nat.le_refl _) | (with_reducible assumption) | (exact Below.size (by assumption)) | omega | go_size | (simp at *; omega)))⟩
        | true =>
          clear hq0
          go_enter Try.func89, Try.ntmps89
          go_wp2
          go_ret
          exact ⟨ret_bool (by simp only [ebL, r1, r2, r3]; rfl), (by repeat' (first | exact Below.refl _ _ | (with_reducible assumption) | (with_reducible refine Below.alloc ?_ ?_ _) | (with_reducible refine Below.setCell ?_ ?_ _) | (with_reducible refine Below.drew ?_) | (with_reducible refine below_drewN ?_ _) | (refine Below.trans ?_ (Below.mono (by assumption) ?_)) | (with_reducible exact Nat.le_refl _) | (with_reducible assumption) | (exact Below.size (by assumption)) | omega | go_size | (simp at *; omega)))⟩
  · obtain ⟨d1, d2, d3, d4⟩ := hk
    have q1 : (k == 1) = false := by simpa using d1
    have q2 : (k == 2) = false := by simpa using d2
    have q3 : (k == 3) = false := by simpa using d3
    have q4 : (k == 4) = false := by simpa using d4
    clear d1 d2 d3 d4
    cases r1 : (((n1 : Int) == 0)) with
    | false =>
      clear hq0
      go_enter Try.func89, Try.ntmps89
      go_wp2
      go_ret
      exact ⟨ret_bool (by simp only [ebL, q1, q2, q3, q4, r1]; rfl), (by repeat' (first | exact Below.refl _ _ | (with_reducible assumption) | (with_reducible refine Below.alloc ?_ ?_ _) | (with_reducible refine Below.setCell ?_ ?_ _) | (with_reducible refine Below.drew ?_) | (with_reducible refine below_drewN ?_ _) | (refine Below.trans ?_ (Below.mono (by assumption) ?_)) | (with_reducible exact Nat.le_refl _) | (with_reducible assumption) | (exact Below.size (by assumption)) | omega | go_size | (simp at *; omega)))⟩
    | true =>
      cases r2 : (((n2 : Int) == 0)) with
      | false =>
        clear hq0
        go_enter Try.func89, Try.ntmps89
        go_wp2
        go_ret
        exact ⟨ret_bool (by simp only [ebL, q1, q2, q3, q4, r1, r2]; rfl), (by repeat' (first | exact Below.refl _ _ | (with_reducible assumption) | (with_reducible refine Below.alloc ?_ ?_ _) | (with_reducible refine Below.setCell ?_ ?_ _) | (with_reducible refine Below.drew ?_) | (with_reducible refine below_drewN ?_ _) | (refine Below.trans ?_ (Below.mono (by assumption) ?_)) | (with_reducible exact Nat.le_refl _) | (with_reducible assumption) | (exact Below.size (by assumption)) | omega | go_size | (simp at *; omega)))⟩
      | true =>
        cases r3 : (((n3 : Int) == 0)) with
        | false =>
          clear hq0
          go_enter Try.func89, Try.ntmps89
          go_wp2
          go_ret
          exact ⟨ret_bool (by simp only [ebL, q1, q2, q3, q4, r1, r2, r3]; rfl), (by repeat' (first | exact Below.refl _ _ | (with_reducible assumption) | (with_reducible refine Below.alloc ?_ ?_ _) | (with_reducible refine Below.setCell ?_ ?_ _) | (with_reducible refine Below.drew ?_) | (with_reducible refine below_drewN ?_ _) | (refine Below.trans ?_ (Below.mono (by assumption) ?_)) | (with_reducible exact Nat.le_refl _) | (with_reducible assumption) | (exact Below.size (by assumption)) | omega | go_size | (simp at *; omega)))⟩
        | true =>
          cases r4 : (((n4 : Int) + (n5 : Int) == 0)) with
          | false =>
            clear hq0
            go_enter Try.func89, Try.ntmps89
            go_wp2
            go_ret
            exact ⟨ret_bool (by simp only [ebL, q1, q2, q3, q4, r1, r2, r3, r4]; rfl), (by repeat' (first | exact Below.refl _ _ | (with_reducible assumption) | (with_reducible refine Below.alloc ?_ ?_ _) | (with_reducible refine Below.setCell ?_ ?_ _) | (with_reducible refine Below.drew ?_) | (with_reducible refine below_drewN ?_ _) | (refine Below.trans ?_ (Below.mono (by assumption) ?_)) | (with_reducible exact Nat.le_refl _) | (with_reducible assumption) | (exact Below.size (by assumption)) | omega | go_size | (simp at *; omega)))⟩
          | true =>
            clear hq0
            go_enter Try.func89, Try.ntmps89
            go_wp2
            go_ret
            exact ⟨ret_bool (by simp only [ebL, q1, q2, q3, q4, r1, r2, r3, r4]; rfl), (by repeat' (first | exact Below.refl _ _ | (with_reducible assumption) | (with_reducible refine Below.alloc ?_ ?_ _) | (with_reducible refine Below.setCell ?_ ?_ _) | (with_reducible refine Below.drew ?_) | (with_reducible refine below_drewN ?_ _) | (refine Below.trans ?_ (Below.mono (by assumption) ?_)) | (with_reducible exact Nat.le_refl _) | (with_reducible assumption) | (exact Below.size (by assumption)) | omega | go_size | (simp at *; omega)))⟩
set_option maxRecDepth 100000 in
set_option maxHeartbeats 4000000 in
theorem ValidNotation_any (k : Int) (p : List Int) (m : List (List Int)) (y : List Beat) (q1 q2 : List PT) (s : Six) (w : World) (hs : NtSm (k, p, m, y, (q1, q2))) (h : NtRd (k, p, m, y, (q1, q2)) s w) :
    Calls Try.prog 16 #[.agg #[.int .i64 k, .slice s.A p.length s.c, .slice s.A2 m.length s.c2, .slice s.A3 y.length s.c3, .slice s.A4 q1.length s.c4, .slice s.A5 q2.length s.c5]] w fun e w' => e = .returned (.bool (ntOk (k, p, m, y, (q1, q2)))) ∧ Below w.heap.size w w' := by
  obtain ⟨A, c, A2, c2, A3, c3, A4, c4, A5, c5⟩ := s
  obtain ⟨l1, ⟨l2, l3, _⟩, l4, l5, l6⟩ := hs
  simp only at l1 l2 l3 l4 l5 l6 ⊢
  have H := fun (w1 : World) (b : Below w.heap.size w w1) => h.below b
  unfold NtRd at H
  simp only at H
  have C1 := hid (fun (w1 : World) (b : Below w.heap.size w w1) => ValidPattern_any A p.length c p w1 (by omega) (H w1 b).1)
  have C2 := hid (fun (w1 : World) (b : Below w.heap.size w w1) => ValidMulti_any A2 m.length c2 m w1 (by omega) (fun r hr => by have := l3 r hr; omega) (H w1 b).2.1)
  have C3 := hid (fun (w1 : World) (b : Below w.heap.size w w1) => ValidSync_any A3 y.length c3 y w1 (by omega) (H w1 b).2.2.1)
  have C4 := hid (fun (w1 : World) (b : Below w.heap.size w w1) => ValidPassing_any A4 A5 q1.length c4 q2.length c5 (q1, q2) w1 (by omega) (by omega) (H w1 b).2.2.2.1 (H w1 b).2.2.2.2)
  have hX := Bx.new w 40 #[.int .i64 k, .slice A p.length c, .slice A2 m.length c2, .slice A3 y.length c3, .slice A4 q1.length c4, .slice A5 q2.length c5]
  have hB0 : Below w.heap.size w (w.alloc (Obj.cells #[.int .i64 k, .slice A p.length c, .slice A2 m.length c2, .slice A3 y.length c3, .slice A4 q1.length c4, .slice A5 q2.length c5] 40)) := Below.alloc (Below.refl _ _) (Nat.le_refl _) _
  have hE := isEmptyBut_any k A A2 A3 A4 A5 p.length m.length y.length q1.length q2.length c c2 c3 c4 c5 (w.alloc (Obj.cells #[.int .i64 k, .slice A p.length c, .slice A2 m.length c2, .slice A3 y.length c3, .slice A4 q1.length c4, .slice A5 q2.length c5] 40)) (by omega) (by omega)
  obtain ⟨x, hx⟩ : ∃ x : Note, (k, p, m, y, (q1, q2)) = x := ⟨_, rfl⟩
  obtain ⟨eb, heb⟩ : ∃ eb, ebL k p.length m.length y.length q1.length q2.length = eb := ⟨_, rfl⟩
  have HEB : Hid (ebN x = eb) := by show _ = _; rw [← hx, ← heb]; rfl
  have HK : Hid (x.1 = k) := by show _ = _; rw [← hx]
  have HS1 : Hid (k = 1 → swN x = okP p) := fun h => by rw [swN_1 (by rw [HK.out, h]), ← hx]
  have HS2 : Hid (k = 2 → swN x = mOk m) := fun h => by rw [swN_2 (by rw [HK.out, h]), ← hx]
  have HS3 : Hid (k = 3 → swN x = syOk y) := fun h => by rw [swN_3 (by rw [HK.out, h]), ← hx]
  have HS4 : Hid (k = 4 → swN x = psOk (q1, q2)) := fun h => by rw [swN_4 (by rw [HK.out, h]), ← hx]
  rw [heb] at hE
  rw [hx]
  have hE := hid hE
  have HX := hid hX
  have HB0 := hid hB0
  clear heb H h hX hB0 hx
  go_enter Try.func16, Try.ntmps16
  go_wp2_with fail
  refine hE.out.mono ?_
  rintro e w1 ⟨rfl, hb1⟩
  have hB1 := bchain HB0.out hb1
  have hX1 := HX.out.below hb1 HX.out.lt
  obtain ⟨⟨a0, a1, a2, a3, a4, a5⟩, -⟩ := zc hX1
  have hl1 := hX1.lt
  clear hE HX HB0 hb1 hX1
  cases eb
  · have HZ := hid (ntOk_no HEB.out)
    clear C1 C2 C3 C4 HEB HK HS1 HS2 HS3 HS4
    go_wp2
    go_ret
    exact ⟨ret_bool HZ.out.symm, hB1⟩
  · have HZ := hid (ntOk_yes HEB.out)
    have hk : k = 1 ∨ k = 2 ∨ k = 3 ∨ k = 4 ∨ (k ≠ 1 ∧ k ≠ 2 ∧ k ≠ 3 ∧ k ≠ 4) := by omega
    rcases hk with rfl | rfl | rfl | rfl | ⟨d1, d2, d3, d4⟩
    · have HR : Hid (ntOk x = okP p) := by show _ = _; rw [HZ.out, HS1.out rfl]
      clear C2 C3 C4 HEB HK HS1 HS2 HS3 HS4 HZ
      go_wp2_with fail
      refine (C1.out w1 hB1).mono ?_
      rintro e w2 ⟨rfl, hb2⟩
      have hB2 := bchain hB1 hb2
      clear C1 hb2 a0 a1 a2 a3 a4 a5
      go_wp2
      go_ret
      exact ⟨ret_bool HR.out.symm, hB2⟩
    · have HR : Hid (ntOk x = mOk m) := by show _ = _; rw [HZ.out, HS2.out rfl]
      clear C1 C3 C4 HEB HK HS1 HS2 HS3 HS4 HZ
      go_wp2_with fail
      refine (C2.out w1 hB1).mono ?_
      rintro e w2 ⟨rfl, hb2⟩
      have hB2 := bchain hB1 hb2
      clear C2 hb2 a0 a1 a2 a3 a4 a5
      go_wp2
      go_ret
      exact ⟨ret_bool HR.out.symm, hB2⟩
    · have HR : Hid (ntOk x = syOk y) := by show _ = _; rw [HZ.out, HS3.out rfl]
      clear C1 C2 C4 HEB HK HS1 HS2 HS3 HS4 HZ
      go_wp2_with fail
      refine (C3.out w1 hB1).mono ?_
      rintro e w2 ⟨rfl, hb2⟩
      have hB2 := bchain hB1 hb2
      clear C3 hb2 a0 a1 a2 a3 a4 a5
      go_wp2
      go_ret
      exact ⟨ret_bool HR.out.symm, hB2⟩
    · have HR : Hid (ntOk x = psOk (q1, q2)) := by show _ = _; rw [HZ.out, HS4.out rfl]
      clear C1 C2 C3 HEB HK HS1 HS2 HS3 HS4 HZ
      go_wp2_with fail
      refine (C4.out w1 hB1).mono ?_
      rintro e w2 ⟨rfl, hb2⟩
      have hB2 := bchain hB1 hb2
      clear C4 hb2 a0 a1 a2 a3 a4 a5
      go_wp2
      go_ret
      exact ⟨ret_bool HR.out.symm, hB2⟩
    · have HR : Hid (ntOk x = false) := by show _ = _; rw [HZ.out, swN_0 (by rw [HK.out]; exact d1) (by rw [HK.out]; exact d2) (by rw [HK.out]; exact d3) (by rw [HK.out]; exact d4)]
      have e1 : (k == 1) = false := by simpa using d1
      have e2 : (k == 2) = false := by simpa using d2
      have e3 : (k == 3) = false := by simpa using d3
      have e4 : (k == 4) = false := by simpa using d4
      clear C1 C2 C3 C4 HEB HK HS1 HS2 HS3 HS4 HZ d1 d2 d3 d4
      go_wp2
      go_ret
      exact ⟨ret_bool HR.out.symm, hB1⟩
end Go.Proofs.Ytkglkpohbckpcaa
