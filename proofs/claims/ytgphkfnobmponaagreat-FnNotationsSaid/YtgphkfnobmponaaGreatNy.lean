/- The text: Ny. -/
import Derived.Test.YtgphkfnobmponaaGreatG28
/- Contracts of the reference's checks of notations. -/
namespace Go.Proofs.YtgphkfnobmponaaGreat
open Go.RowKit
set_option linter.unusedVariables false

theorem Bo.one {w : World} {g o : Nat} {v : Value} (hg : g < w.heap.size) (h : w.cell? ⟨g, o, none⟩ = some v) : Bo w g o #[v] := by
  refine ⟨hg, fun i u hu => ?_⟩
  cases i with
  | zero => simp at hu; subst hu; exact h
  | succ i => simp at hu
theorem Bo.two {w : World} {g o : Nat} {v u : Value} (hg : g < w.heap.size) (h : w.cell? ⟨g, o, none⟩ = some v) (h' : w.cell? ⟨g, o + 1, none⟩ = some u) : Bo w g o #[v, u] := by
  refine ⟨hg, fun i x hx => ?_⟩
  rcases i with _ | _ | i
  · simp at hx; subst hx; exact h
  · simp at hx; subst hx; exact h'
  · simp at hx
set_option maxRecDepth 100000 in
set_option maxHeartbeats 16000000 in
theorem l07Ok_any (g : Nat) (k : Int) (p : List Int) (m : List (List Int)) (y : List Beat) (q1 q2 : List PT) (s : Six) (w : World) (hs : NtSm (k, p, m, y, (q1, q2))) (hx : Bx w g 33 #[.int .i64 k, .slice s.A p.length s.c, .slice s.A2 m.length s.c2, .slice s.A3 y.length s.c3, .slice s.A4 q1.length s.c4, .slice s.A5 q2.length s.c5]) (h : NtRd (k, p, m, y, (q1, q2)) s w) :
    Calls Tryz.prog 47 #[.pointer (some ⟨g, 0, none⟩)] w fun e w' => e = .returned (.bool (ntOk (k, p, m, y, (q1, q2)))) ∧ Below w.heap.size w w' := by
  obtain ⟨A, c, A2, c2, A3, c3, A4, c4, A5, c5⟩ := s
  obtain ⟨l1, ⟨l2, l3, _⟩, l4, l5, l6⟩ := hs
  obtain ⟨H1, H2, H3, H4, H5⟩ := h
  simp only at l1 l2 l3 l4 l5 l6 hx H1 H2 H3 H4 H5
  have hgl := hx.lt
  obtain ⟨⟨a0, a1, a2, a3, a4, a5⟩, -⟩ := zc hx
  have C1 := hid (l02Ok_any A p.length c p w (by omega) H1)
  have C2 := hid (l04Ok_at g 2 A2 m.length c2 m w (by omega) (fun r hr => by have := l3 r hr; omega) (Bo.one hgl a2) H2)
  have C3 := hid (l05Ok_any A3 y.length c3 y w (by omega) H3)
  have C4 := hid (l06Ok_at g 4 A4 A5 q1.length c4 q2.length c5 (q1, q2) w (by omega) (by omega) (Bo.two hgl a4 a5) H4 H5)
  have hk : k = 1 ∨ k = 2 ∨ k = 3 ∨ k = 4 ∨ (k ≠ 1 ∧ k ≠ 2 ∧ k ≠ 3 ∧ k ≠ 4) := by omega
  have hq0 := True.intro
  clear hx H1 H2 H3 H4 H5
  by_cases e1 : p.length = 0
  · by_cases e2 : m.length = 0
    · by_cases e3 : y.length = 0
      · by_cases e4 : q1.length = 0
        · by_cases e5 : q2.length = 0
          · have r1 : ((p.length : Int) == 0) = true := by simpa using e1
            have r2 : ((m.length : Int) == 0) = true := by simpa using e2
            have r3 : ((y.length : Int) == 0) = true := by simpa using e3
            have r4 : ((q1.length : Int) == 0) = true := by simpa using e4
            have r5 : ((q2.length : Int) == 0) = true := by simpa using e5
            have HZ : Hid (ntOk (k, p, m, y, (q1, q2)) = false) := by show _ = _; exact ntOk_n3 (by unfold cntN emp; simp only; (repeat' split) <;> omega)
            clear C1 C2 C3 C4 hq0 e1 e2 e3 e4 e5
            go_enter Tryz.func47, Tryz.ntmps47
            go_wp2
            go_ret
            exact ⟨ret_bool HZ.out.symm, Below.refl _ _⟩
          · have r1 : ((p.length : Int) == 0) = true := by simpa using e1
            have r2 : ((m.length : Int) == 0) = true := by simpa using e2
            have r3 : ((y.length : Int) == 0) = true := by simpa using e3
            have r4 : ((q1.length : Int) == 0) = true := by simpa using e4
            have r5 : ((q2.length : Int) == 0) = false := by simpa using e5
            have HZ : Hid (ntOk (k, p, m, y, (q1, q2)) = swN (k, p, m, y, (q1, q2))) := by show _ = _; exact ntOk_3 (by unfold cntN emp; simp only; (repeat' split) <;> omega)
            clear hq0 e1 e2 e3 e4 e5
            rcases hk with rfl | rfl | rfl | rfl | ⟨d1, d2, d3, d4⟩
            · have HR := hid (HZ.out.trans (swN_1 (x := (1, p, m, y, (q1, q2))) rfl))
              clear HZ C2 C3 C4
              go_enter Tryz.func47, Tryz.ntmps47
              go_wp2_with fail
              refine C1.out.mono ?_
              rintro e w1 ⟨rfl, hb1⟩
              clear C1 a0 a1 a2 a3 a4 a5
              go_wp2
              go_ret
              exact ⟨ret_bool HR.out.symm, hb1⟩
            · have HR := hid (HZ.out.trans (swN_2 (x := (2, p, m, y, (q1, q2))) rfl))
              clear HZ C1 C3 C4
              go_enter Tryz.func47, Tryz.ntmps47
              go_wp2_with fail
              refine C2.out.mono ?_
              rintro e w1 ⟨rfl, hb1⟩
              clear C2 a0 a1 a2 a3 a4 a5
              go_wp2
              go_ret
              exact ⟨ret_bool HR.out.symm, hb1⟩
            · have HR := hid (HZ.out.trans (swN_3 (x := (3, p, m, y, (q1, q2))) rfl))
              clear HZ C1 C2 C4
              go_enter Tryz.func47, Tryz.ntmps47
              go_wp2_with fail
              refine C3.out.mono ?_
              rintro e w1 ⟨rfl, hb1⟩
              clear C3 a0 a1 a2 a3 a4 a5
              go_wp2
              go_ret
              exact ⟨ret_bool HR.out.symm, hb1⟩
            · have HR := hid (HZ.out.trans (swN_4 (x := (4, p, m, y, (q1, q2))) rfl))
              clear HZ C1 C2 C3
              go_enter Tryz.func47, Tryz.ntmps47
              go_wp2_with fail
              refine C4.out.mono ?_
              rintro e w1 ⟨rfl, hb1⟩
              clear C4 a0 a1 a2 a3 a4 a5
              go_wp2
              go_ret
              exact ⟨ret_bool HR.out.symm, hb1⟩
            · have HR := hid (HZ.out.trans (swN_0 (x := (k, p, m, y, (q1, q2))) d1 d2 d3 d4))
              have u1 : (k == 1) = false := by simpa using d1
              have u2 : (k == 2) = false := by simpa using d2
              have u3 : (k == 3) = false := by simpa using d3
              have u4 : (k == 4) = false := by simpa using d4
              clear HZ C1 C2 C3 C4 d1 d2 d3 d4
              go_enter Tryz.func47, Tryz.ntmps47
              go_wp2
              go_ret
              exact ⟨ret_bool HR.out.symm, Below.refl _ _⟩
        · have r1 : ((p.length : Int) == 0) = true := by simpa using e1
          have r2 : ((m.length : Int) == 0) = true := by simpa using e2
          have r3 : ((y.length : Int) == 0) = true := by simpa using e3
          have r4 : ((q1.length : Int) == 0) = false := by simpa using e4
          have HZ : Hid (ntOk (k, p, m, y, (q1, q2)) = swN (k, p, m, y, (q1, q2))) := by show _ = _; exact ntOk_3 (by unfold cntN emp; simp only; (repeat' split) <;> omega)
          clear hq0 e1 e2 e3 e4
          rcases hk with rfl | rfl | rfl | rfl | ⟨d1, d2, d3, d4⟩
          · have HR := hid (HZ.out.trans (swN_1 (x := (1, p, m, y, (q1, q2))) rfl))
            clear HZ C2 C3 C4
            go_enter Tryz.func47, Tryz.ntmps47
            go_wp2_with fail
            refine C1.out.mono ?_
            rintro e w1 ⟨rfl, hb1⟩
            clear C1 a0 a1 a2 a3 a4 a5
            go_wp2
            go_ret
            exact ⟨ret_bool HR.out.symm, hb1⟩
          · have HR := hid (HZ.out.trans (swN_2 (x := (2, p, m, y, (q1, q2))) rfl))
            clear HZ C1 C3 C4
            go_enter Tryz.func47, Tryz.ntmps47
            go_wp2_with fail
            refine C2.out.mono ?_
            rintro e w1 ⟨rfl, hb1⟩
            clear C2 a0 a1 a2 a3 a4 a5
            go_wp2
            go_ret
            exact ⟨ret_bool HR.out.symm, hb1⟩
          · have HR := hid (HZ.out.trans (swN_3 (x := (3, p, m, y, (q1, q2))) rfl))
            clear HZ C1 C2 C4
            go_enter Tryz.func47, Tryz.ntmps47
            go_wp2_with fail
            refine C3.out.mono ?_
            rintro e w1 ⟨rfl, hb1⟩
            clear C3 a0 a1 a2 a3 a4 a5
            go_wp2
            go_ret
            exact ⟨ret_bool HR.out.symm, hb1⟩
          · have HR := hid (HZ.out.trans (swN_4 (x := (4, p, m, y, (q1, q2))) rfl))
            clear HZ C1 C2 C3
            go_enter Tryz.func47, Tryz.ntmps47
            go_wp2_with fail
            refine C4.out.mono ?_
            rintro e w1 ⟨rfl, hb1⟩
            clear C4 a0 a1 a2 a3 a4 a5
            go_wp2
            go_ret
            exact ⟨ret_bool HR.out.symm, hb1⟩
          · have HR := hid (HZ.out.trans (swN_0 (x := (k, p, m, y, (q1, q2))) d1 d2 d3 d4))
            have u1 : (k == 1) = false := by simpa using d1
            have u2 : (k == 2) = false := by simpa using d2
            have u3 : (k == 3) = false := by simpa using d3
            have u4 : (k == 4) = false := by simpa using d4
            clear HZ C1 C2 C3 C4 d1 d2 d3 d4
            go_enter Tryz.func47, Tryz.ntmps47
            go_wp2
            go_ret
            exact ⟨ret_bool HR.out.symm, Below.refl _ _⟩
      · by_cases e4 : q1.length = 0
        · by_cases e5 : q2.length = 0
          · have r1 : ((p.length : Int) == 0) = true := by simpa using e1
            have r2 : ((m.length : Int) == 0) = true := by simpa using e2
            have r3 : ((y.length : Int) == 0) = false := by simpa using e3
            have r4 : ((q1.length : Int) == 0) = true := by simpa using e4
            have r5 : ((q2.length : Int) == 0) = true := by simpa using e5
            have HZ : Hid (ntOk (k, p, m, y, (q1, q2)) = swN (k, p, m, y, (q1, q2))) := by show _ = _; exact ntOk_3 (by unfold cntN emp; simp only; (repeat' split) <;> omega)
            clear hq0 e1 e2 e3 e4 e5
            rcases hk with rfl | rfl | rfl | rfl | ⟨d1, d2, d3, d4⟩
            · have HR := hid (HZ.out.trans (swN_1 (x := (1, p, m, y, (q1, q2))) rfl))
              clear HZ C2 C3 C4
              go_enter Tryz.func47, Tryz.ntmps47
              go_wp2_with fail
              refine C1.out.mono ?_
              rintro e w1 ⟨rfl, hb1⟩
              clear C1 a0 a1 a2 a3 a4 a5
              go_wp2
              go_ret
              exact ⟨ret_bool HR.out.symm, hb1⟩
            · have HR := hid (HZ.out.trans (swN_2 (x := (2, p, m, y, (q1, q2))) rfl))
              clear HZ C1 C3 C4
              go_enter Tryz.func47, Tryz.ntmps47
              go_wp2_with fail
              refine C2.out.mono ?_
              rintro e w1 ⟨rfl, hb1⟩
              clear C2 a0 a1 a2 a3 a4 a5
              go_wp2
              go_ret
              exact ⟨ret_bool HR.out.symm, hb1⟩
            · have HR := hid (HZ.out.trans (swN_3 (x := (3, p, m, y, (q1, q2))) rfl))
              clear HZ C1 C2 C4
              go_enter Tryz.func47, Tryz.ntmps47
              go_wp2_with fail
              refine C3.out.mono ?_
              rintro e w1 ⟨rfl, hb1⟩
              clear C3 a0 a1 a2 a3 a4 a5
              go_wp2
              go_ret
              exact ⟨ret_bool HR.out.symm, hb1⟩
            · have HR := hid (HZ.out.trans (swN_4 (x := (4, p, m, y, (q1, q2))) rfl))
              clear HZ C1 C2 C3
              go_enter Tryz.func47, Tryz.ntmps47
              go_wp2_with fail
              refine C4.out.mono ?_
              rintro e w1 ⟨rfl, hb1⟩
              clear C4 a0 a1 a2 a3 a4 a5
              go_wp2
              go_ret
              exact ⟨ret_bool HR.out.symm, hb1⟩
            · have HR := hid (HZ.out.trans (swN_0 (x := (k, p, m, y, (q1, q2))) d1 d2 d3 d4))
              have u1 : (k == 1) = false := by simpa using d1
              have u2 : (k == 2) = false := by simpa using d2
              have u3 : (k == 3) = false := by simpa using d3
              have u4 : (k == 4) = false := by simpa using d4
              clear HZ C1 C2 C3 C4 d1 d2 d3 d4
              go_enter Tryz.func47, Tryz.ntmps47
              go_wp2
              go_ret
              exact ⟨ret_bool HR.out.symm, Below.refl _ _⟩
          · have r1 : ((p.length : Int) == 0) = true := by simpa using e1
            have r2 : ((m.length : Int) == 0) = true := by simpa using e2
            have r3 : ((y.length : Int) == 0) = false := by simpa using e3
            have r4 : ((q1.length : Int) == 0) = true := by simpa using e4
            have r5 : ((q2.length : Int) == 0) = false := by simpa using e5
            have HZ : Hid (ntOk (k, p, m, y, (q1, q2)) = false) := by show _ = _; exact ntOk_n3 (by unfold cntN emp; simp only; (repeat' split) <;> omega)
            clear C1 C2 C3 C4 hq0 e1 e2 e3 e4 e5
            go_enter Tryz.func47, Tryz.ntmps47
            go_wp2
            go_ret
            exact ⟨ret_bool HZ.out.symm, Below.refl _ _⟩
        · have r1 : ((p.length : Int) == 0) = true := by simpa using e1
          have r2 : ((m.length : Int) == 0) = true := by simpa using e2
          have r3 : ((y.length : Int) == 0) = false := by simpa using e3
          have r4 : ((q1.length : Int) == 0) = false := by simpa using e4
          have HZ : Hid (ntOk (k, p, m, y, (q1, q2)) = false) := by show _ = _; exact ntOk_n3 (by unfold cntN emp; simp only; (repeat' split) <;> omega)
          clear C1 C2 C3 C4 hq0 e1 e2 e3 e4
          go_enter Tryz.func47, Tryz.ntmps47
          go_wp2
          go_ret
          exact ⟨ret_bool HZ.out.symm, Below.refl _ _⟩
    · by_cases e3 : y.length = 0
      · by_cases e4 : q1.length = 0
        · by_cases e5 : q2.length = 0
          · have r1 : ((p.length : Int) == 0) = true := by simpa using e1
            have r2 : ((m.length : Int) == 0) = false := by simpa using e2
            have r3 : ((y.length : Int) == 0) = true := by simpa using e3
            have r4 : ((q1.length : Int) == 0) = true := by simpa using e4
            have r5 : ((q2.length : Int) == 0) = true := by simpa using e5
            have HZ : Hid (ntOk (k, p, m, y, (q1, q2)) = swN (k, p, m, y, (q1, q2))) := by show _ = _; exact ntOk_3 (by unfold cntN emp; simp only; (repeat' split) <;> omega)
            clear hq0 e1 e2 e3 e4 e5
            rcases hk with rfl | rfl | rfl | rfl | ⟨d1, d2, d3, d4⟩
            · have HR := hid (HZ.out.trans (swN_1 (x := (1, p, m, y, (q1, q2))) rfl))
              clear HZ C2 C3 C4
              go_enter Tryz.func47, Tryz.ntmps47
              go_wp2_with fail
              refine C1.out.mono ?_
              rintro e w1 ⟨rfl, hb1⟩
              clear C1 a0 a1 a2 a3 a4 a5
              go_wp2
              go_ret
              exact ⟨ret_bool HR.out.symm, hb1⟩
            · have HR := hid (HZ.out.trans (swN_2 (x := (2, p, m, y, (q1, q2))) rfl))
              clear HZ C1 C3 C4
              go_enter Tryz.func47, Tryz.ntmps47
              go_wp2_with fail
              refine C2.out.mono ?_
              rintro e w1 ⟨rfl, hb1⟩
              clear C2 a0 a1 a2 a3 a4 a5
              go_wp2
              go_ret
              exact ⟨ret_bool HR.out.symm, hb1⟩
            · have HR := hid (HZ.out.trans (swN_3 (x := (3, p, m, y, (q1, q2))) rfl))
              clear HZ C1 C2 C4
              go_enter Tryz.func47, Tryz.ntmps47
              go_wp2_with fail
              refine C3.out.mono ?_
              rintro e w1 ⟨rfl, hb1⟩
              clear C3 a0 a1 a2 a3 a4 a5
              go_wp2
              go_ret
              exact ⟨ret_bool HR.out.symm, hb1⟩
            · have HR := hid (HZ.out.trans (swN_4 (x := (4, p, m, y, (q1, q2))) rfl))
              clear HZ C1 C2 C3
              go_enter Tryz.func47, Tryz.ntmps47
              go_wp2_with fail
              refine C4.out.mono ?_
              rintro e w1 ⟨rfl, hb1⟩
              clear C4 a0 a1 a2 a3 a4 a5
              go_wp2
              go_ret
              exact ⟨ret_bool HR.out.symm, hb1⟩
            · have HR := hid (HZ.out.trans (swN_0 (x := (k, p, m, y, (q1, q2))) d1 d2 d3 d4))
              have u1 : (k == 1) = false := by simpa using d1
              have u2 : (k == 2) = false := by simpa using d2
              have u3 : (k == 3) = false := by simpa using d3
              have u4 : (k == 4) = false := by simpa using d4
              clear HZ C1 C2 C3 C4 d1 d2 d3 d4
              go_enter Tryz.func47, Tryz.ntmps47
              go_wp2
              go_ret
              exact ⟨ret_bool HR.out.symm, Below.refl _ _⟩
          · have r1 : ((p.length : Int) == 0) = true := by simpa using e1
            have r2 : ((m.length : Int) == 0) = false := by simpa using e2
            have r3 : ((y.length : Int) == 0) = true := by simpa using e3
            have r4 : ((q1.length : Int) == 0) = true := by simpa using e4
            have r5 : ((q2.length : Int) == 0) = false := by simpa using e5
            have HZ : Hid (ntOk (k, p, m, y, (q1, q2)) = false) := by show _ = _; exact ntOk_n3 (by unfold cntN emp; simp only; (repeat' split) <;> omega)
            clear C1 C2 C3 C4 hq0 e1 e2 e3 e4 e5
            go_enter Tryz.func47, Tryz.ntmps47
            go_wp2
            go_ret
            exact ⟨ret_bool HZ.out.symm, Below.refl _ _⟩
        · have r1 : ((p.length : Int) == 0) = true := by simpa using e1
          have r2 : ((m.length : Int) == 0) = false := by simpa using e2
          have r3 : ((y.length : Int) == 0) = true := by simpa using e3
          have r4 : ((q1.length : Int) == 0) = false := by simpa using e4
          have HZ : Hid (ntOk (k, p, m, y, (q1, q2)) = false) := by show _ = _; exact ntOk_n3 (by unfold cntN emp; simp only; (repeat' split) <;> omega)
          clear C1 C2 C3 C4 hq0 e1 e2 e3 e4
          go_enter Tryz.func47, Tryz.ntmps47
          go_wp2
          go_ret
          exact ⟨ret_bool HZ.out.symm, Below.refl _ _⟩
      · by_cases e4 : q1.length = 0
        · by_cases e5 : q2.length = 0
          · have r1 : ((p.length : Int) == 0) = true := by simpa using e1
            have r2 : ((m.length : Int) == 0) = false := by simpa using e2
            have r3 : ((y.length : Int) == 0) = false := by simpa using e3
            have r4 : ((q1.length : Int) == 0) = true := by simpa using e4
            have r5 : ((q2.length : Int) == 0) = true := by simpa using e5
            have HZ : Hid (ntOk (k, p, m, y, (q1, q2)) = false) := by show _ = _; exact ntOk_n3 (by unfold cntN emp; simp only; (repeat' split) <;> omega)
            clear C1 C2 C3 C4 hq0 e1 e2 e3 e4 e5
            go_enter Tryz.func47, Tryz.ntmps47
            go_wp2
            go_ret
            exact ⟨ret_bool HZ.out.symm, Below.refl _ _⟩
          · have r1 : ((p.length : Int) == 0) = true := by simpa using e1
            have r2 : ((m.length : Int) == 0) = false := by simpa using e2
            have r3 : ((y.length : Int) == 0) = false := by simpa using e3
            have r4 : ((q1.length : Int) == 0) = true := by simpa using e4
            have r5 : ((q2.length : Int) == 0) = false := by simpa using e5
            have HZ : Hid (ntOk (k, p, m, y, (q1, q2)) = false) := by show _ = _; exact ntOk_n3 (by unfold cntN emp; simp only; (repeat' split) <;> omega)
            clear C1 C2 C3 C4 hq0 e1 e2 e3 e4 e5
            go_enter Tryz.func47, Tryz.ntmps47
            go_wp2
            go_ret
            exact ⟨ret_bool HZ.out.symm, Below.refl _ _⟩
        · have r1 : ((p.length : Int) == 0) = true := by simpa using e1
          have r2 : ((m.length : Int) == 0) = false := by simpa using e2
          have r3 : ((y.length : Int) == 0) = false := by simpa using e3
          have r4 : ((q1.length : Int) == 0) = false := by simpa using e4
          have HZ : Hid (ntOk (k, p, m, y, (q1, q2)) = false) := by show _ = _; exact ntOk_n3 (by unfold cntN emp; simp only; (repeat' split) <;> omega)
          clear C1 C2 C3 C4 hq0 e1 e2 e3 e4
          go_enter Tryz.func47, Tryz.ntmps47
          go_wp2
          go_ret
          exact ⟨ret_bool HZ.out.symm, Below.refl _ _⟩
  · by_cases e2 : m.length = 0
    · by_cases e3 : y.length = 0
      · by_cases e4 : q1.length = 0
        · by_cases e5 : q2.length = 0
          · have r1 : ((p.length : Int) == 0) = false := by simpa using e1
            have r2 : ((m.length : Int) == 0) = true := by simpa using e2
            have r3 : ((y.length : Int) == 0) = true := by simpa using e3
            have r4 : ((q1.length : Int) == 0) = true := by simpa using e4
            have r5 : ((q2.length : Int) == 0) = true := by simpa using e5
            have HZ : Hid (ntOk (k, p, m, y, (q1, q2)) = swN (k, p, m, y, (q1, q2))) := by show _ = _; exact ntOk_3 (by unfold cntN emp; simp only; (repeat' split) <;> omega)
            clear hq0 e1 e2 e3 e4 e5
            rcases hk with rfl | rfl | rfl | rfl | ⟨d1, d2, d3, d4⟩
            · have HR := hid (HZ.out.trans (swN_1 (x := (1, p, m, y, (q1, q2))) rfl))
              clear HZ C2 C3 C4
              go_enter Tryz.func47, Tryz.ntmps47
              go_wp2_with fail
              refine C1.out.mono ?_
              rintro e w1 ⟨rfl, hb1⟩
              clear C1 a0 a1 a2 a3 a4 a5
              go_wp2
              go_ret
              exact ⟨ret_bool HR.out.symm, hb1⟩
            · have HR := hid (HZ.out.trans (swN_2 (x := (2, p, m, y, (q1, q2))) rfl))
              clear HZ C1 C3 C4
              go_enter Tryz.func47, Tryz.ntmps47
              go_wp2_with fail
              refine C2.out.mono ?_
              rintro e w1 ⟨rfl, hb1⟩
              clear C2 a0 a1 a2 a3 a4 a5
              go_wp2
              go_ret
              exact ⟨ret_bool HR.out.symm, hb1⟩
            · have HR := hid (HZ.out.trans (swN_3 (x := (3, p, m, y, (q1, q2))) rfl))
              clear HZ C1 C2 C4
              go_enter Tryz.func47, Tryz.ntmps47
              go_wp2_with fail
              refine C3.out.mono ?_
              rintro e w1 ⟨rfl, hb1⟩
              clear C3 a0 a1 a2 a3 a4 a5
              go_wp2
              go_ret
              exact ⟨ret_bool HR.out.symm, hb1⟩
            · have HR := hid (HZ.out.trans (swN_4 (x := (4, p, m, y, (q1, q2))) rfl))
              clear HZ C1 C2 C3
              go_enter Tryz.func47, Tryz.ntmps47
              go_wp2_with fail
              refine C4.out.mono ?_
              rintro e w1 ⟨rfl, hb1⟩
              clear C4 a0 a1 a2 a3 a4 a5
              go_wp2
              go_ret
              exact ⟨ret_bool HR.out.symm, hb1⟩
            · have HR := hid (HZ.out.trans (swN_0 (x := (k, p, m, y, (q1, q2))) d1 d2 d3 d4))
              have u1 : (k == 1) = false := by simpa using d1
              have u2 : (k == 2) = false := by simpa using d2
              have u3 : (k == 3) = false := by simpa using d3
              have u4 : (k == 4) = false := by simpa using d4
              clear HZ C1 C2 C3 C4 d1 d2 d3 d4
              go_enter Tryz.func47, Tryz.ntmps47
              go_wp2
              go_ret
              exact ⟨ret_bool HR.out.symm, Below.refl _ _⟩
          · have r1 : ((p.length : Int) == 0) = false := by simpa using e1
            have r2 : ((m.length : Int) == 0) = true := by simpa using e2
            have r3 : ((y.length : Int) == 0) = true := by simpa using e3
            have r4 : ((q1.length : Int) == 0) = true := by simpa using e4
            have r5 : ((q2.length : Int) == 0) = false := by simpa using e5
            have HZ : Hid (ntOk (k, p, m, y, (q1, q2)) = false) := by show _ = _; exact ntOk_n3 (by unfold cntN emp; simp only; (repeat' split) <;> omega)
            clear C1 C2 C3 C4 hq0 e1 e2 e3 e4 e5
            go_enter Tryz.func47, Tryz.ntmps47
            go_wp2
            go_ret
            exact ⟨ret_bool HZ.out.symm, Below.refl _ _⟩
        · have r1 : ((p.length : Int) == 0) = false := by simpa using e1
          have r2 : ((m.length : Int) == 0) = true := by simpa using e2
          have r3 : ((y.length : Int) == 0) = true := by simpa using e3
          have r4 : ((q1.length : Int) == 0) = false := by simpa using e4
          have HZ : Hid (ntOk (k, p, m, y, (q1, q2)) = false) := by show _ = _; exact ntOk_n3 (by unfold cntN emp; simp only; (repeat' split) <;> omega)
          clear C1 C2 C3 C4 hq0 e1 e2 e3 e4
          go_enter Tryz.func47, Tryz.ntmps47
          go_wp2
          go_ret
          exact ⟨ret_bool HZ.out.symm, Below.refl _ _⟩
      · by_cases e4 : q1.length = 0
        · by_cases e5 : q2.length = 0
          · have r1 : ((p.length : Int) == 0) = false := by simpa using e1
            have r2 : ((m.length : Int) == 0) = true := by simpa using e2
            have r3 : ((y.length : Int) == 0) = false := by simpa using e3
            have r4 : ((q1.length : Int) == 0) = true := by simpa using e4
            have r5 : ((q2.length : Int) == 0) = true := by simpa using e5
            have HZ : Hid (ntOk (k, p, m, y, (q1, q2)) = false) := by show _ = _; exact ntOk_n3 (by unfold cntN emp; simp only; (repeat' split) <;> omega)
            clear C1 C2 C3 C4 hq0 e1 e2 e3 e4 e5
            go_enter Tryz.func47, Tryz.ntmps47
            go_wp2
            go_ret
            exact ⟨ret_bool HZ.out.symm, Below.refl _ _⟩
          · have r1 : ((p.length : Int) == 0) = false := by simpa using e1
            have r2 : ((m.length : Int) == 0) = true := by simpa using e2
            have r3 : ((y.length : Int) == 0) = false := by simpa using e3
            have r4 : ((q1.length : Int) == 0) = true := by simpa using e4
            have r5 : ((q2.length : Int) == 0) = false := by simpa using e5
            have HZ : Hid (ntOk (k, p, m, y, (q1, q2)) = false) := by show _ = _; exact ntOk_n3 (by unfold cntN emp; simp only; (repeat' split) <;> omega)
            clear C1 C2 C3 C4 hq0 e1 e2 e3 e4 e5
            go_enter Tryz.func47, Tryz.ntmps47
            go_wp2
            go_ret
            exact ⟨ret_bool HZ.out.symm, Below.refl _ _⟩
        · have r1 : ((p.length : Int) == 0) = false := by simpa using e1
          have r2 : ((m.length : Int) == 0) = true := by simpa using e2
          have r3 : ((y.length : Int) == 0) = false := by simpa using e3
          have r4 : ((q1.length : Int) == 0) = false := by simpa using e4
          have HZ : Hid (ntOk (k, p, m, y, (q1, q2)) = false) := by show _ = _; exact ntOk_n3 (by unfold cntN emp; simp only; (repeat' split) <;> omega)
          clear C1 C2 C3 C4 hq0 e1 e2 e3 e4
          go_enter Tryz.func47, Tryz.ntmps47
          go_wp2
          go_ret
          exact ⟨ret_bool HZ.out.symm, Below.refl _ _⟩
    · by_cases e3 : y.length = 0
      · by_cases e4 : q1.length = 0
        · by_cases e5 : q2.length = 0
          · have r1 : ((p.length : Int) == 0) = false := by simpa using e1
            have r2 : ((m.length : Int) == 0) = false := by simpa using e2
            have r3 : ((y.length : Int) == 0) = true := by simpa using e3
            have r4 : ((q1.length : Int) == 0) = true := by simpa using e4
            have r5 : ((q2.length : Int) == 0) = true := by simpa using e5
            have HZ : Hid (ntOk (k, p, m, y, (q1, q2)) = false) := by show _ = _; exact ntOk_n3 (by unfold cntN emp; simp only; (repeat' split) <;> omega)
            clear C1 C2 C3 C4 hq0 e1 e2 e3 e4 e5
            go_enter Tryz.func47, Tryz.ntmps47
            go_wp2
            go_ret
            exact ⟨ret_bool HZ.out.symm, Below.refl _ _⟩
          · have r1 : ((p.length : Int) == 0) = false := by simpa using e1
            have r2 : ((m.length : Int) == 0) = false := by simpa using e2
            have r3 : ((y.length : Int) == 0) = true := by simpa using e3
            have r4 : ((q1.length : Int) == 0) = true := by simpa using e4
            have r5 : ((q2.length : Int) == 0) = false := by simpa using e5
            have HZ : Hid (ntOk (k, p, m, y, (q1, q2)) = false) := by show _ = _; exact ntOk_n3 (by unfold cntN emp; simp only; (repeat' split) <;> omega)
            clear C1 C2 C3 C4 hq0 e1 e2 e3 e4 e5
            go_enter Tryz.func47, Tryz.ntmps47
            go_wp2
            go_ret
            exact ⟨ret_bool HZ.out.symm, Below.refl _ _⟩
        · have r1 : ((p.length : Int) == 0) = false := by simpa using e1
          have r2 : ((m.length : Int) == 0) = false := by simpa using e2
          have r3 : ((y.length : Int) == 0) = true := by simpa using e3
          have r4 : ((q1.length : Int) == 0) = false := by simpa using e4
          have HZ : Hid (ntOk (k, p, m, y, (q1, q2)) = false) := by show _ = _; exact ntOk_n3 (by unfold cntN emp; simp only; (repeat' split) <;> omega)
          clear C1 C2 C3 C4 hq0 e1 e2 e3 e4
          go_enter Tryz.func47, Tryz.ntmps47
          go_wp2
          go_ret
          exact ⟨ret_bool HZ.out.symm, Below.refl _ _⟩
      · by_cases e4 : q1.length = 0
        · by_cases e5 : q2.length = 0
          · have r1 : ((p.length : Int) == 0) = false := by simpa using e1
            have r2 : ((m.length : Int) == 0) = false := by simpa using e2
            have r3 : ((y.length : Int) == 0) = false := by simpa using e3
            have r4 : ((q1.length : Int) == 0) = true := by simpa using e4
            have r5 : ((q2.length : Int) == 0) = true := by simpa using e5
            have HZ : Hid (ntOk (k, p, m, y, (q1, q2)) = false) := by show _ = _; exact ntOk_n3 (by unfold cntN emp; simp only; (repeat' split) <;> omega)
            clear C1 C2 C3 C4 hq0 e1 e2 e3 e4 e5
            go_enter Tryz.func47, Tryz.ntmps47
            go_wp2
            go_ret
            exact ⟨ret_bool HZ.out.symm, Below.refl _ _⟩
          · have r1 : ((p.length : Int) == 0) = false := by simpa using e1
            have r2 : ((m.length : Int) == 0) = false := by simpa using e2
            have r3 : ((y.length : Int) == 0) = false := by simpa using e3
            have r4 : ((q1.length : Int) == 0) = true := by simpa using e4
            have r5 : ((q2.length : Int) == 0) = false := by simpa using e5
            have HZ : Hid (ntOk (k, p, m, y, (q1, q2)) = false) := by show _ = _; exact ntOk_n3 (by unfold cntN emp; simp only; (repeat' split) <;> omega)
            clear C1 C2 C3 C4 hq0 e1 e2 e3 e4 e5
            go_enter Tryz.func47, Tryz.ntmps47
            go_wp2
            go_ret
            exact ⟨ret_bool HZ.out.symm, Below.refl _ _⟩
        · have r1 : ((p.length : Int) == 0) = false := by simpa using e1
          have r2 : ((m.length : Int) == 0) = false := by simpa using e2
          have r3 : ((y.length : Int) == 0) = false := by simpa using e3
          have r4 : ((q1.length : Int) == 0) = false := by simpa using e4
          have HZ : Hid (ntOk (k, p, m, y, (q1, q2)) = false) := by show _ = _; exact ntOk_n3 (by unfold cntN emp; simp only; (repeat' split) <;> omega)
          clear C1 C2 C3 C4 hq0 e1 e2 e3 e4
          go_enter Tryz.func47, Tryz.ntmps47
          go_wp2
          go_ret
          exact ⟨ret_bool HZ.out.symm, Below.refl _ _⟩
end Go.Proofs.YtgphkfnobmponaaGreat
