/- The text: Ma. -/
import Derived.Test.YtgphkfnobmponaaGreatG18
import Derived.Test.YtgphkfnobmponaaGreatG05
import Derived.Test.YtgphkfnobmponaaGreatG02
import Derived.Test.YtgphkfnobmponaaGreatDw
import Derived.BigQuiet
/- Contracts of l04Sort, l04Single. -/
namespace Go.Proofs.YtgphkfnobmponaaGreat
open Go.RowKit
set_option linter.unusedVariables false

theorem own_drewA {w : World} {base e sz n : Nat} {v : Value} {xs : List Value} (h : w.ownsRow base e sz v n xs) : w.drew.ownsRow base e sz v n xs := h
theorem own_some {w : World} {base e sz n : Nat} {v : Value} {xs : List Value} (h : w.ownsRow base e sz v n xs) (hn : 0 < n) : ∃ g c, v = .slice (some ⟨g, 0, none⟩) n c ∧ n ≤ c := by
  obtain ⟨A, c, rfl, h1, h2⟩ := own_form2 h
  rcases h.2 with ⟨_, h3⟩ | ⟨g, cap, cur, h3, hge, hh, r⟩
  · omega
  · injection h3 with h4 h5 h6
    subst h4 h6
    exact ⟨g, c, rfl, h2⟩
theorem cell1 {w : World} {g : Nat} {y : Value} (h : w.cell? ⟨g, 0, none⟩ = some y) : ∀ j u, (#[y] : Array Value).toList[j]? = some u → w.cell? ⟨g, j, none⟩ = some u := by
  intro j u hu
  rcases j with _ | j
  · simp at hu; subst hu; exact h
  · simp at hu
set_option maxRecDepth 100000 in
set_option maxHeartbeats 4000000 in
theorem l04Sort_any (A : Option Addr) (n c : Nat) (l : List Int) (w : World) (hn : n ≤ 1000) (hr : Rd w w.heap.size 1 A n (ints l)) :
    Calls Tryz.prog 142 #[.slice A n c] w fun e w' => (∃ A' c', e = .returned (.slice A' (rSortZ l).length c') ∧ w'.ownsRow w.heap.size 2 1 (.slice A' (rSortZ l).length c') (rSortZ l).length (ints (rSortZ l))) ∧ Below w.heap.size w w' := by
  have hlen := hr.len
  have HR := hid hr
  have HL := hid hlen
  have hst0 : Hid (Fall ([] : List Int) ∧ ([] : List Int).Perm (nz (l.take 0))) := ⟨List.Pairwise.nil, by rw [List.take_zero]; exact List.Perm.nil⟩
  clear hr hlen
  go_enter Tryz.func142, Tryz.ntmps142
  go_wp2
  go_loopw [3, 4] (fun v i wr => Hid (∃ (k : Nat) (out : List Int) (g0 c0 : Nat), k ≤ n ∧ i = .int .i64 k ∧ v = .slice (some ⟨g0, 0, none⟩) out.length c0 ∧ out.length ≤ k ∧ out.length ≤ c0 ∧ Hid (Fall out ∧ out.Perm (nz (l.take k))) ∧ wr.ownsRow w.heap.size 2 1 (.slice (some ⟨g0, 0, none⟩) out.length c0) out.length (ints out) ∧ Below w.heap.size w wr)) (fun _ i _ => n - (intOf i).toNat)
  case atStart => exact hid ⟨0, [], w.heap.size, 0, Nat.zero_le _, rfl, rfl, by simp, by simp, hst0, World.ownsRow_lit _ _ 0 (Nat.le_refl _) (by simp [maxLen]) rfl, (by repeat' (first | exact Below.refl _ _ | (with_reducible first | assumption | exact Nat.le_refl _ | refine Below.alloc ?_ ?_ _ | refine Below.setCell ?_ ?_ _ | refine Below.drew ?_ | refine below_drewN ?_ _) | refine Below.trans ?_ (Below.mono (by assumption) ?_) | exact Below.size (by assumption) | omega | go_size | (simp at *; omega)))⟩
  case round =>
    obtain ⟨k, out, g0, c0, hk, rfl, rfl, hol, hoc, hF, ho, hb0⟩ := hrel.out
    clear hrel hst0
    by_cases hlt : k < n
    · obtain ⟨b, off, x, rfl, hb, hx, hd, hc0⟩ := HR.out.at_ hlt
      have HC := hid (fun (w1 : World) (b1 : Below w.heap.size w w1) => show w1.cell? ⟨b, off + k, none⟩ = some (.int .i64 x) from (b1.cell (p := ⟨b, off + k, none⟩) hb).trans hc0)
      have hc := HC.out wr hb0
      have hbw : b < wr.heap.size := by have := hb0.size; omega
      have hNZ := nz_step hx
      by_cases hx0 : x = 0
      · have HZ : Hid (Fall out ∧ out.Perm (nz (l.take (k + 1)))) := by
          show _ ∧ _
          rw [hNZ, if_pos hx0, List.append_nil]; exact hF.out
        subst hx0
        clear hx hd hc0 hNZ hF
        go_wp2
        go_roundw
        case rel => exact hid ⟨k + 1, out, g0, c0, by omega, by go_num, rfl, by omega, hoc, HZ, ho, hb0⟩
        case measure => simp [intOf]; omega
      · rw [if_neg hx0] at hNZ
        have hq : (x == 0) = false := by simpa using hx0
        have HNZ := hid hNZ
        obtain ⟨wo, rfl⟩ : ∃ wo : World, wo = wr := ⟨_, rfl⟩
        have HO := hid ho
        have HB0 := hid hb0
        have hst1 : Hid (∀ m, out.length ≤ m → m < out.length → out.getD m 0 < x) := fun m h1 h2 => by omega
        have hlg := (ho.lt g0 rfl).2
        clear hx hd hc0 hNZ hx0 ho hb0
        go_wp2
        clear hc
        go_loopw [5] (fun j wx => Hid (∃ jj : Nat, jj ≤ out.length ∧ j = .int .i64 jj ∧ Hid (∀ m, jj ≤ m → m < out.length → out.getD m 0 < x) ∧ Below wo.heap.size wo wx)) (fun j _ => (intOf j).toNat)
        case atStart => exact hid ⟨out.length, Nat.le_refl _, rfl, hst1, Below.refl _ _⟩
        case round =>
          clear hst1
          obtain ⟨jj, hjj, rfl, he, hbx⟩ := hrel.out
          clear hrel
          have hc := HC.out wr (bchain HB0.out hbx)
          have hbw2 : b < wr.heap.size := by have := hbx.size; omega
          have hgw2 : g0 < wr.heap.size := by have := hbx.size; omega
          have hki : (k : Int) < (n : Int) := by omega
          have hst3 : jj = 0 ∨ ∃ m, jj = m + 1 := by
            rcases Nat.eq_zero_or_pos jj with h | h
            · exact .inl h
            · exact .inr ⟨jj - 1, by omega⟩
          have HTK : Hid ((out.take jj).length = jj) := by show _ = _; rw [List.length_take]; omega
          have HDR : Hid ((out.drop jj).length = out.length - jj) := by show _ = _; rw [List.length_drop]
          have HOX := hid (fun (w1 : World) (b1 : Below wr.heap.size wr w1) => own_below HO.out (hbx.trans (b1.mono hbx.size)))
          have HR1 := hid (fun (w1 : World) (b1 : Below wr.heap.size wr w1) => show Rd w1 w1.heap.size 1 (some ⟨g0, 0, none⟩) jj (ints (out.take jj)) from by
            have := Rd.cut (Rd.of_own (own_below HO.out (hbx.trans (b1.mono hbx.size)))) (Nat.zero_le jj) hjj
            simpa using this)
          have HR2 := hid (fun (w1 : World) (b1 : Below wr.heap.size wr w1) => show Rd w1 w1.heap.size 1 (some ⟨g0, jj, none⟩) (out.length - jj) (ints (out.drop jj)) from by
            have := Rd.cut (Rd.of_own (own_below HO.out (hbx.trans (b1.mono hbx.size)))) hjj (Nat.le_refl _)
            simpa using this)
          have HC9 := hid (fun (w' : World) (b1 : Below wr.heap.size wr w') => (l00Own_any (some ⟨g0, 0, none⟩) jj c0 (out.take jj) w' (by omega) (fun h => by cases h) (HR1.out w' b1)).mono (fun e w'' h => show ∃ A c, e = .returned (.slice A jj c) ∧ w''.ownsRow wr.heap.size 2 1 (.slice A jj c) jj (ints (out.take jj)) ∧ Below w'.heap.size w' w'' by
            obtain ⟨v, h1, h2, h3⟩ := h
            obtain ⟨A, c, rfl⟩ := own_form h2
            exact ⟨A, c, h1, own_more h2 b1.size, h3⟩))
          have HBW := hid (bchain HB0.out hbx)
          have hzz := HBW.out.size
          have f1 : (jj : Int) ≤ (c0 : Int) := by omega
          have f2 : (0 : Int) ≤ (jj : Int) := by omega
          have f3 : (jj : Int) ≤ (out.length : Int) := by omega
          have hjbig : jj ≤ 1099511627775 := by omega
          rcases hst3 with h0 | ⟨m, hm⟩
          · have hlo : ∀ m, jj = m + 1 → x ≤ out.getD m 0 := fun m h => by omega
            have HN : Hid (Fall (out.take jj ++ x :: out.drop jj) ∧ (out.take jj ++ x :: out.drop jj).Perm (nz (l.take (k + 1)))) := by
              show _ ∧ _
              refine ⟨fall_ins hF.out.1 hjj he.out hlo, ?_⟩
              rw [HNZ.out]
              exact perm_ins.trans (hF.out.2.append_right _)
            have hdec : decide ((0 : Int) < (jj : Int)) = false := decide_eq_false (by omega)
            have hdec2 : decide (0 < jj) = false := decide_eq_false (by omega)
            clear hlo he HNZ hF h0
            go_wp2
            go_quiet (fail)
            go_wp2
            go_region_law (first
              | (refine step_push_own (base := wr.heap.size) (sz := 1) (e := 2) (n := jj) (xs := ints (out.take jj)) (by first | exact ho5 | exact ho5.alloc _ | exact own_drewA ho5 | exact (own_drewA ho5).alloc _ | exact own_drewA (ho5.alloc _)) _ #[.int .i64 x] (cell1 (by first | (simp; done) | (rw [World.cell?_drewN]; rw [World.cell?_alloc_at _ _ _ _ (by first | rfl | simp)]; first | done | rfl) | (show (World.alloc _ _).cell? _ = _; rw [World.cell?_alloc_at _ _ _ _ (by first | rfl | simp)]; first | done | rfl) | (refine (hk5 (by first | (simp; done) | (simp [World.drewN]; done))).trans ?_; show (World.alloc _ _).cell? _ = _; rw [World.cell?_alloc_at _ _ _ _ (by first | rfl | simp)]; first | done | rfl))) rfl (by intro u hu; simp at hu; subst hu; rfl) Tryz.underlying24 inf_int rfl (by omega) rfl _ _ rfl rfl rfl hjbig (by omega) (by first | exact hz5 | exact Nat.le_trans hz5 (by simp)) (by first | (simp; done) | (have hgm := hy5; simp [World.drewN] at hgm ⊢; omega)) ?_; intro v6 w6 ho6 hb6 hg6; have hb6w : Below wr.heap.size wr w6 := Below.trans (by repeat' (first | (with_reducible exact hB5) | (with_reducible refine Below.drew ?_) | (with_reducible refine below_drewN ?_ _) | (with_reducible refine Below.alloc ?_ ?_ _) | exact hz5)) hb6; clear hb6 hg6 hk5 hb5 ho5 hB5 hc5 hz5 hy5 hl5)
              | (go_simp; go_wp2_with (go_at_call 141; refine (HC9.out _ ?_).mono ?_; (exact (by repeat' (first | exact Below.refl _ _ | (with_reducible first | assumption | exact Nat.le_refl _ | refine Below.alloc ?_ ?_ _ | refine Below.setCell ?_ ?_ _ | refine Below.drew ?_ | refine below_drewN ?_ _) | refine Below.trans ?_ (Below.mono (by assumption) ?_) | exact Below.size (by assumption) | omega | go_size | (simp at *; omega)))); rintro e w5 ⟨A5, c5, rfl, ho5, hb5⟩; have hk5 := (fun h => hb5.cell (p := ⟨wr.heap.size, 0, none⟩) h); have hB5 := bchain (show Below wr.heap.size wr _ by repeat' (first | (with_reducible exact Below.refl _ _) | (with_reducible refine Below.drew ?_) | (with_reducible refine below_drewN ?_ _) | (with_reducible refine Below.alloc ?_ ?_ _) | exact Nat.le_refl _)) hb5; have hc5 := HC.out w5 (bchain HBW.out hB5); have hz5 := hB5.size; have hy5 := hb5.size; have hl5 : b < w5.heap.size := World.block_lt_of_cell? w5 (a := ⟨b, off + k, none⟩) hc5)))
            all_goals
              have hs6 := hb6w.size
              have ho6' : w6.ownsRow wr.heap.size 2 1 v6 (out.take jj ++ [x]).length (ints (out.take jj ++ [x])) := by
                rw [List.length_append, HTK.out, ← ints_snoc]; exact ho6
              have HR6 := HR2.out w6 hb6w
              clear ho6
              rcases Nat.lt_or_ge jj c0 with h9 | h9
              · have f9 : (jj : Int) < (c0 : Int) := by omega
                go_wp2_with (at_builtin; refine app_ints (base := wr.heap.size) (xs := out.take jj ++ [x]) ho6' _ _ _ (out.drop jj) HR6 (fun h => by cases h) Tryz.underlying24 inf_int rfl rfl _ _ rfl rfl rfl (by rw [List.length_append, HTK.out]; simp; omega) hs6 ?_; intro v7 w7 ho7 hb7 hg7)
                have hb7w := hb6w.trans hb7
                have HLN : Hid ((out.take jj ++ x :: out.drop jj).length = out.length + 1) := by show _ = _; rw [List.length_append, List.length_cons, HTK.out, HDR.out]; omega
                have ho8 := own_more ho7 hzz
                rw [show out.take jj ++ [x] ++ out.drop jj = out.take jj ++ x :: out.drop jj from by simp] at ho8
                obtain ⟨g7, c7, hv7, hoc7⟩ := own_some ho8 (by rw [HLN.out]; omega)
                subst hv7
                have hb8 := bchain HBW.out hb7w
                have HO8 := hid ho8
                clear ho7 ho8 hb7 hg7 hb7w hb6w ho6' HR6
                go_wp2
                go_roundw
                case rel => exact hid ⟨k + 1, out.take jj ++ x :: out.drop jj, g7, c7, by omega, by go_num, by first | rfl | (rw [HLN.out]), by rw [HLN.out]; omega, hoc7, HN, HO8.out, hb8⟩
                case measure => simp [intOf]; omega
              · have h10 : out.drop jj = [] := List.drop_eq_nil_of_le (by omega)
                have H10 := hid h10
                have f9 : ¬ ((jj : Int) < (c0 : Int)) := by omega
                have f12 : ¬ (jj < c0) := by omega
                clear h10
                go_wp2_with (at_builtin; refine app_ints (base := wr.heap.size) (B := w6.heap.size) (xs := out.take jj ++ [x]) ho6' _ _ _ [] (show Rd _ w6.heap.size 1 _ _ (ints []) from ⟨by simp [ints]; omega, fun h => absurd h (by omega)⟩) (fun h => by cases h) Tryz.underlying24 inf_int rfl rfl _ _ rfl rfl rfl (by rw [List.length_append, HTK.out]; simp; omega) hs6 ?_; intro v7 w7 ho7 hb7 hg7)
                have hb7w := hb6w.trans hb7
                have HLN : Hid ((out.take jj ++ x :: out.drop jj).length = out.length + 1) := by show _ = _; rw [List.length_append, List.length_cons, HTK.out, HDR.out]; omega
                have ho8 := own_more ho7 hzz
                rw [show out.take jj ++ [x] ++ [] = out.take jj ++ x :: out.drop jj from by rw [H10.out]; simp] at ho8
                obtain ⟨g7, c7, hv7, hoc7⟩ := own_some ho8 (by rw [HLN.out]; omega)
                subst hv7
                have hb8 := bchain HBW.out hb7w
                have HO8 := hid ho8
                clear ho7 ho8 hb7 hg7 hb7w hb6w ho6' HR6
                go_wp2
                go_roundw
                case rel => exact hid ⟨k + 1, out.take jj ++ x :: out.drop jj, g7, c7, by omega, by go_num, by first | rfl | (rw [HLN.out]), by rw [HLN.out]; omega, hoc7, HN, HO8.out, hb8⟩
                case measure => simp [intOf]; omega
          · obtain ⟨g', off', y, hge', hgb', hym, hyd, hyc⟩ := (Rd.of_own (HOX.out wr (Below.refl _ _))).at_ (show m < out.length by omega)
            injection hge' with hge'
            injection hge' with e1 e2
            subst e1 e2
            have hyg : out.getD m 0 = y := by rw [List.getD_eq_getElem?_getD, hym]; rfl
            have hw1 : IntKind.i64.wrap ((jj : Int) - 1) = (m : Int) := by rw [IntKind.wrap_i64]; omega
            have hm1 : (m : Int) < (out.length : Int) := by omega
            have hm2 : m < out.length := by omega
            have hdec : decide ((0 : Int) < (jj : Int)) = true := decide_eq_true (by omega)
            have hdec2 : decide (0 < jj) = true := decide_eq_true (by omega)
            have hmj : m ≤ out.length := by omega
            have HM := hid hm
            clear hm hyd hym
            by_cases hyx : y < x
            · have hst5 : Hid (∀ m', m ≤ m' → m' < out.length → out.getD m' 0 < x) := fun m' h1 h2 => by
                rcases Nat.lt_or_ge m' jj with h3 | h3
                · have : m' = m := by have := HM.out; omega
                  rw [this, hyg]; exact hyx
                · exact he.out m' h3 h2
              have hdec3 : decide (y < x) = true := decide_eq_true hyx
              have hmeas : m < jj := by have := HM.out; omega
              have HB := hid hbx
              clear he HNZ hF hyg hyx hbx
              have hyc2 : wr.cell? ⟨g0, m, none⟩ = some (.int .i64 y) := by simpa using hyc
              have hm0 : (0 : Int) ≤ (m : Int) := by omega
              go_wp2
              go_big_quiet (fail)
              go_wp2
              go_roundw
              case rel => exact hid ⟨m, hmj, by first | rfl | go_num, hst5, below_drewN HB.out _⟩
              case measure => simp [intOf]; omega
            · have hlo : ∀ m', jj = m' + 1 → x ≤ out.getD m' 0 := fun m' h => by
                have h2 : m' = m := by have := HM.out; omega
                rw [h2, hyg]; omega
              have HN : Hid (Fall (out.take jj ++ x :: out.drop jj) ∧ (out.take jj ++ x :: out.drop jj).Perm (nz (l.take (k + 1)))) := by
                show _ ∧ _
                refine ⟨fall_ins hF.out.1 hjj he.out hlo, ?_⟩
                rw [HNZ.out]
                exact perm_ins.trans (hF.out.2.append_right _)
              have hdec3 : decide (y < x) = false := decide_eq_false hyx
              have hyc2 : wr.cell? ⟨g0, m, none⟩ = some (.int .i64 y) := by simpa using hyc
              have hm0 : (0 : Int) ≤ (m : Int) := by omega
              clear hlo he HNZ hF hyg hyx
              go_wp2
              go_big_quiet (fail)
              go_wp2
              go_region_law (first
                | (refine step_push_own (base := wr.heap.size) (sz := 1) (e := 2) (n := jj) (xs := ints (out.take jj)) (by first | exact ho5 | exact ho5.alloc _ | exact own_drewA ho5 | exact (own_drewA ho5).alloc _ | exact own_drewA (ho5.alloc _)) _ #[.int .i64 x] (cell1 (by first | (simp; done) | (rw [World.cell?_drewN]; rw [World.cell?_alloc_at _ _ _ _ (by first | rfl | simp)]; first | done | rfl) | (show (World.alloc _ _).cell? _ = _; rw [World.cell?_alloc_at _ _ _ _ (by first | rfl | simp)]; first | done | rfl) | (refine (hk5 (by first | (simp; done) | (simp [World.drewN]; done))).trans ?_; show (World.alloc _ _).cell? _ = _; rw [World.cell?_alloc_at _ _ _ _ (by first | rfl | simp)]; first | done | rfl))) rfl (by intro u hu; simp at hu; subst hu; rfl) Tryz.underlying24 inf_int rfl (by omega) rfl _ _ rfl rfl rfl hjbig (by omega) (by first | exact hz5 | exact Nat.le_trans hz5 (by simp)) (by first | (simp; done) | (have hgm := hy5; simp [World.drewN] at hgm ⊢; omega)) ?_; intro v6 w6 ho6 hb6 hg6; have hb6w : Below wr.heap.size wr w6 := Below.trans (by repeat' (first | (with_reducible exact hB5) | (with_reducible refine Below.drew ?_) | (with_reducible refine below_drewN ?_ _) | (with_reducible refine Below.alloc ?_ ?_ _) | exact hz5)) hb6; clear hb6 hg6 hk5 hb5 ho5 hB5 hc5 hz5 hy5 hl5)
                | (go_simp; go_wp2_with (go_at_call 141; refine (HC9.out _ ?_).mono ?_; (exact (by repeat' (first | exact Below.refl _ _ | (with_reducible first | assumption | exact Nat.le_refl _ | refine Below.alloc ?_ ?_ _ | refine Below.setCell ?_ ?_ _ | refine Below.drew ?_ | refine below_drewN ?_ _) | refine Below.trans ?_ (Below.mono (by assumption) ?_) | exact Below.size (by assumption) | omega | go_size | (simp at *; omega)))); rintro e w5 ⟨A5, c5, rfl, ho5, hb5⟩; have hk5 := (fun h => hb5.cell (p := ⟨wr.heap.size, 0, none⟩) h); have hB5 := bchain (show Below wr.heap.size wr _ by repeat' (first | (with_reducible exact Below.refl _ _) | (with_reducible refine Below.drew ?_) | (with_reducible refine below_drewN ?_ _) | (with_reducible refine Below.alloc ?_ ?_ _) | exact Nat.le_refl _)) hb5; have hc5 := HC.out w5 (bchain HBW.out hB5); have hz5 := hB5.size; have hy5 := hb5.size; have hl5 : b < w5.heap.size := World.block_lt_of_cell? w5 (a := ⟨b, off + k, none⟩) hc5)))
              all_goals
                have hs6 := hb6w.size
                have ho6' : w6.ownsRow wr.heap.size 2 1 v6 (out.take jj ++ [x]).length (ints (out.take jj ++ [x])) := by
                  rw [List.length_append, HTK.out, ← ints_snoc]; exact ho6
                have HR6 := HR2.out w6 hb6w
                clear ho6
                rcases Nat.lt_or_ge jj c0 with h9 | h9
                · have f9 : (jj : Int) < (c0 : Int) := by omega
                  go_wp2_with (at_builtin; refine app_ints (base := wr.heap.size) (xs := out.take jj ++ [x]) ho6' _ _ _ (out.drop jj) HR6 (fun h => by cases h) Tryz.underlying24 inf_int rfl rfl _ _ rfl rfl rfl (by rw [List.length_append, HTK.out]; simp; omega) hs6 ?_; intro v7 w7 ho7 hb7 hg7)
                  have hb7w := hb6w.trans hb7
                  have HLN : Hid ((out.take jj ++ x :: out.drop jj).length = out.length + 1) := by show _ = _; rw [List.length_append, List.length_cons, HTK.out, HDR.out]; omega
                  have ho8 := own_more ho7 hzz
                  rw [show out.take jj ++ [x] ++ out.drop jj = out.take jj ++ x :: out.drop jj from by simp] at ho8
                  obtain ⟨g7, c7, hv7, hoc7⟩ := own_some ho8 (by rw [HLN.out]; omega)
                  subst hv7
                  have hb8 := bchain HBW.out hb7w
                  have HO8 := hid ho8
                  clear ho7 ho8 hb7 hg7 hb7w hb6w ho6' HR6
                  go_wp2
                  go_roundw
                  case rel => exact hid ⟨k + 1, out.take jj ++ x :: out.drop jj, g7, c7, by omega, by go_num, by first | rfl | (rw [HLN.out]), by rw [HLN.out]; omega, hoc7, HN, HO8.out, hb8⟩
                  case measure => simp [intOf]; omega
                · have h10 : out.drop jj = [] := List.drop_eq_nil_of_le (by omega)
                  have H10 := hid h10
                  have f9 : ¬ ((jj : Int) < (c0 : Int)) := by omega
                  have f12 : ¬ (jj < c0) := by omega
                  clear h10
                  go_wp2_with (at_builtin; refine app_ints (base := wr.heap.size) (B := w6.heap.size) (xs := out.take jj ++ [x]) ho6' _ _ _ [] (show Rd _ w6.heap.size 1 _ _ (ints []) from ⟨by simp [ints]; omega, fun h => absurd h (by omega)⟩) (fun h => by cases h) Tryz.underlying24 inf_int rfl rfl _ _ rfl rfl rfl (by rw [List.length_append, HTK.out]; simp; omega) hs6 ?_; intro v7 w7 ho7 hb7 hg7)
                  have hb7w := hb6w.trans hb7
                  have HLN : Hid ((out.take jj ++ x :: out.drop jj).length = out.length + 1) := by show _ = _; rw [List.length_append, List.length_cons, HTK.out, HDR.out]; omega
                  have ho8 := own_more ho7 hzz
                  rw [show out.take jj ++ [x] ++ [] = out.take jj ++ x :: out.drop jj from by rw [H10.out]; simp] at ho8
                  obtain ⟨g7, c7, hv7, hoc7⟩ := own_some ho8 (by rw [HLN.out]; omega)
                  subst hv7
                  have hb8 := bchain HBW.out hb7w
                  have HO8 := hid ho8
                  clear ho7 ho8 hb7 hg7 hb7w hb6w ho6' HR6
                  go_wp2
                  go_roundw
                  case rel => exact hid ⟨k + 1, out.take jj ++ x :: out.drop jj, g7, c7, by omega, by go_num, by first | rfl | (rw [HLN.out]), by rw [HLN.out]; omega, hoc7, HN, HO8.out, hb8⟩
                  case measure => simp [intOf]; omega
    · have hkn : k = n := by omega
      have hE : out = rSrt l := by
        have h := hF.out
        rw [List.take_of_length_le (by rw [HL.out]; omega)] at h
        exact rSrt_uniq h.1 h.2
      by_cases h0 : out = []
      · have HZ : Hid (rSortZ l = [0]) := by show _ = _; rw [rSortZ, ← hE, if_pos h0]
        subst h0
        have HZZ := hid HZ.out
        clear hF hE hkn ho HZ
        go_wp2
        go_ret
        rw [show rSortZ l = [0] from HZZ.out]
        exact ⟨⟨_, _, rfl, World.ownsRow_lit _ _ 1 (by first | exact hb0.size | (simp; have := hb0.size; omega)) (by simp [maxLen]) rfl⟩, (by repeat' (first | exact Below.refl _ _ | (with_reducible first | assumption | exact Nat.le_refl _ | refine Below.alloc ?_ ?_ _ | refine Below.setCell ?_ ?_ _ | refine Below.drew ?_ | refine below_drewN ?_ _) | refine Below.trans ?_ (Below.mono (by assumption) ?_) | exact Below.size (by assumption) | omega | go_size | (simp at *; omega)))⟩
      · have HZ : Hid (rSortZ l = out) := by show _ = _; rw [rSortZ, ← hE, if_neg h0]
        have hq : ((out.length : Int) == 0) = false := by
          have := List.length_pos_iff.2 h0
          simp; exact h0
        clear hF hE hkn h0
        go_wp2
        go_ret
        rw [HZ.out]
        exact ⟨⟨_, _, rfl, ho⟩, hb0⟩
end Go.Proofs.YtgphkfnobmponaaGreat
