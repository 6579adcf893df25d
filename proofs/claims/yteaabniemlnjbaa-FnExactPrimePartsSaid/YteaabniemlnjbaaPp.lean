/- Contracts of PrimeParts, and the walk of its law. -/
import Derived.Test.YteaabniemlnjbaaPq
import Derived.Test.YteaabniemlnjbaaFw
import Derived.Test.YteaabniemlnjbaaCo
import Derived.Test.YteaabniemlnjbaaGl
import Derived.Test.YteaabniemlnjbaaPu
import Derived.Deep.LoopGhost
import Derived.Deep.DeepCutAuto
import Derived.Deep.RegionWith
import Derived.Deep.RegionLaw
namespace Go.Proofs.Yteaabniemlnjbaa
open Go.RowKit
set_option linter.unusedVariables false

theorem own_drew {w : World} {base e sz n : Nat} {v : Value} {xs : List Value} (h : w.ownsRow base e sz v n xs) : w.drew.ownsRow base e sz v n xs := h

def rPrimeParts (p : List Int) : List (List Int) × Int := if loB p then (partsP p, 0) else ([], loC p)
set_option maxRecDepth 100000 in
set_option maxHeartbeats 1000000 in
theorem PrimeParts_ok (A : Option Addr) (n c : Nat) (p : List Int) (w : World) (hlo : loB p = true) (hp : okP p = true) (hn : n ≤ 1099511627776) (hr : Rd w w.heap.size 1 A n (ints p)) :
    Calls Try.prog 33 #[.slice A n c] w fun e w' => ∃ v, e = .returned (.tuple #[v, .int .i64 0]) ∧ Grid w' w.heap.size w'.heap.size v (partsP p) ∧ Below w.heap.size w w' := by
  have hlen := hr.len
  have hth := thOk_iff (okP_th hp)
  have hn1 : 1 ≤ n := by omega
  have hn2 : n ≤ 12 := by omega
  have hA : A = none → c = 0 := by
    obtain ⟨b, off, e, _⟩ := hr.2 (by omega)
    intro h; rw [h] at e; cases e
  have hC := lowCode_any A n c p w hn hr
  rw [(loC_iff p).2 hlo] at hC
  have hC := hid hC
  have HR := hid hr
  have HA := hid hA
  have HP := hid hp
  have hst : Hid (([] : List (List Int)) ++ partsF n p = partsP p) := by show _ = _; rw [partsP, hlen]; rfl
  have HL := hid hlen
  generalize partsP p = R at *
  clear hr hth hlo hp hA hlen
  go_enter Try.func33, Try.ntmps33
  go_wp2_with (first | (go_at_call 87; refine (hC.out).mono ?_; rintro e w1 ⟨rfl, hb1⟩; first | (have hk1 := bchain (by assumption) hb1; obtain ⟨hc1, hf1, hz1, hl1⟩ := bcell hk1) | (obtain ⟨hc1, hf1, hz1, hl1⟩ := bcell hb1)) | (go_at_call 96; refine (copyNumbers_any A n c p _ (by omega) HA.out (((HR.out.below hb1 (Nat.le_refl _)).alloc hb1.size _).more (by have := hb1.size; simp; omega))).mono ?_; rintro e w2 ⟨v2, rfl, ho2, hb2⟩))
  have z2 : w.heap.size ≤ w2.heap.size := by have h := hb2.size; have h1 := hb1.size; simp at h; omega
  have hB2 : Below w.heap.size w w2 := (by repeat' (first | exact Below.refl _ _ | (with_reducible assumption) | (with_reducible refine Below.alloc ?_ ?_ _) | (with_reducible refine Below.setCell ?_ ?_ _) | (with_reducible refine Below.drew ?_) | (with_reducible refine below_drewN ?_ _) | (refine Below.trans ?_ (Below.mono (by assumption) ?_)) | (with_reducible exact Nat.le_refl _) | (with_reducible assumption) | (exact Below.size (by assumption)) | omega | go_size | (simp at *; omega)))
  have ho2 := own_more ho2 (show w.heap.size ≤ _ by have h1 := hb1.size; simp; omega)
  have hst1 : Grid w2 w.heap.size w2.heap.size (.slice (some ⟨w1.heap.size, 0, none⟩) 0 0) [] := ((Grid.lit w1 w1.heap.size hb1.size).below hb2).up (by first | exact Nat.le_trans (by simp) hb2.size | (have := hb2.size; simp at this; omega))
  rw [← HL.out] at ho2
  go_loopw [5, 6] (fun v5 v6 wr => ∃ (q : List Int) (f : Nat) (rows : List (List Int)), Hid (q.length = 0 ∨ okP q = true) ∧ q.length ≤ f ∧ rows.length + q.length ≤ 12 ∧ Hid (rows ++ partsF f q = R) ∧ wr.ownsRow w.heap.size 2 1 v6 q.length (ints q) ∧ Grid wr w.heap.size wr.heap.size v5 rows ∧ Below w.heap.size w wr) (fun _ v _ => match v with | .slice _ m _ => m | _ => 0)
  case atStart => exact ⟨p, n, [], .inr HP.out, by have := HL.out; omega, by have := HL.out; simp; omega, hst, ho2, hst1, hB2⟩
  case round =>
    obtain ⟨q, f, rows, hq, hqf, hqr, he, ho, hG, hb0⟩ := hrel
    obtain ⟨A6, c6, rfl, hA6, hc6⟩ := own_form2 ho
    have hA6 := hid hA6
    clear ho2 hst hst1 hB2 hb1 hb2
    have hz0 := hb0.size
    by_cases hlt : 0 < q.length
    · have hok : okP q = true := by
        rcases hq.out with h | h
        · omega
        · exact h
      obtain ⟨g6, rfl⟩ : ∃ g6, A6 = some ⟨g6, 0, none⟩ := by
        rcases ho.2 with ⟨_, h0⟩ | ⟨g6, _, _, hv, _⟩
        · omega
        · injection hv with h1 _ _
          exact ⟨g6, h1⟩
      obtain ⟨f', rfl⟩ : ∃ f', f = f' + 1 := ⟨f - 1, by omega⟩
      have hRQ := restR_ok hok
      have he := he.out
      rw [partsF_go (by omega)] at he
      obtain ⟨hi1, hi2⟩ := repR_bd (p := q) hlt
      have hcl := cutP_len (i := (repR q).1) hi2
      have hrl := restP_len (Nat.le_of_lt hi1) hi2
      have hF := firstRepeat_any (some ⟨g6, 0, none⟩) q.length c6 q wr hok (Rd.of_own ho)
      obtain ⟨⟨I, K⟩, hIK⟩ : ∃ x, repR q = x := ⟨_, rfl⟩
      rw [hIK] at he hi1 hi2 hcl hrl hRQ hF
      dsimp only at he hi1 hi2 hcl hrl hRQ hF
      have hRQ := hid hRQ
      have hF := hid hF
      have HE := hid he
      have HCL := hid hcl
      have HRL := hid hrl
      clear he hcl hrl hIK hq hok
      go_wp2_with (go_at_call 85; refine hF.out.mono ?_; rintro e w1 ⟨rfl, hb1⟩)
      have ho1 := own_below ho hb1
      have hz1 := hb1.size
      have hcut : Rd w1 w1.heap.size 1 (some ⟨g6, I, none⟩) (K - I) (ints (cutP q I K)) := by
        have := Rd.cut (Rd.of_own ho1) (Nat.le_of_lt hi1) hi2
        rwa [Nat.zero_add] at this
      have HCU := hid (copyNumbers_any (some ⟨g6, I, none⟩) (K - I) (c6 - I) (cutP q I K) w1 (by omega) (fun h => by cases h) hcut)
      clear hcut
      go_wp2_with fail
      refine HCU.out.mono ?_
      rintro e w3 ⟨v3, rfl, ho3, hb3⟩
      have hz3 := hb3.size
      have hG3 := (hG.below hb1).below hb3
      have hl3 : (K - I) = (cutP q I K).length := HCL.out.symm
      rw [hl3] at ho3
      obtain ⟨A3, c3, rfl⟩ := own_form ho3
      have ho3' := own_more ho3 (show w.heap.size ≤ w1.heap.size by omega)
      have hum : ∀ g, (Value.slice A3 (cutP q I K).length c3).ownBlock = some g → wr.heap.size ≤ g := fun g h => by have := (ho3.lt g h).1; omega
      have horest := own_below ho1 hb3
      have HL3 := hid hl3
      have hwz : wr.heap.size ≤ w3.heap.size := by omega
      clear hl3
      go_wp2_with (at_builtin; refine push_row hG3 ho3' hum hwz _ Try.underlying39 inf_row rfl _ _ rfl rfl rfl (by omega) (by omega) ?_; intro v4 w4 hG4 hb4 hg4)
      have hz4 := hb4.size
      have hor4 := hG3.other horest (by decide) hg4
      have hR1 : Rd w4 w4.heap.size 1 (some ⟨g6, 0, none⟩) I (ints (q.take I)) := by
        have := Rd.cut (Rd.of_own hor4) (Nat.zero_le I) (by omega)
        simpa using this
      have hR2 : Rd w4 w4.heap.size 1 (some ⟨g6, K, none⟩) (q.length - K) (ints (q.drop K)) := by
        have := Rd.cut (Rd.of_own hor4) hi2 (Nat.le_refl _)
        simpa using this
      have hti : (q.take I).length = I := by rw [List.length_take]; omega
      have HC9 := hid (fun (w' : World) (b : Below w4.heap.size w4 w') => (copyNumbers_any (some ⟨g6, 0, none⟩) I c6 (q.take I) w' (by omega) (fun h => by cases h) ((hR1.below b (Nat.le_refl _)).more b.size)).mono (fun e w'' h => show ∃ A c, e = .returned (.slice A I c) ∧ w''.ownsRow w4.heap.size 2 1 (.slice A I c) (q.take I).length (ints (q.take I)) ∧ Below w'.heap.size w' w'' by
        obtain ⟨v, h1, h2, h3⟩ := h
        obtain ⟨A, c, rfl⟩ := own_form h2
        exact ⟨A, c, h1, by rw [hti]; exact own_more h2 b.size, h3⟩))
      have hdk : (q.drop K).length = q.length - K := by rw [List.length_drop]
      have HTI := hid hti
      have HR2 := hid hR2
      have hB4 : Below w.heap.size w w4 := by
        have h1 : Below w.heap.size w w1 := bchain hb0 hb1
        have h3 : Below w.heap.size w w3 := bchain h1 hb3
        exact h3.trans (hb4.mono (by omega))
      clear hti hdk hR1 hR2 ho1 ho3 ho3' hum horest hG3 hF HCU hg4 hor4 hG hb0 hb1 hb3 hb4
      have f1 : (I : Int) ≤ (c6 : Int) := by omega
      have f2 : (0 : Int) ≤ (I : Int) := by omega
      have f3 : (K : Int) ≤ (q.length : Int) := by omega
      have f4 : (0 : Int) ≤ (K : Int) := by omega
      have f5 : I ≤ c6 := by omega
      have f6 : K ≤ c6 := by omega
      rcases Nat.lt_or_ge K c6 with hck | hck
      · have hck' : ¬ c6 = K := by omega
        go_wp2
        go_region_law (first
          | (refine step_app_ints (B := w4.heap.size) (base := w4.heap.size) (xs := q.take I) (by first | exact ho5 | exact own_drew ho5) _ _ _ (q.drop K) (Rd.below HR2.out (C := w4.heap.size) (by repeat' (first | exact Below.refl _ _ | (with_reducible assumption) | (with_reducible refine Below.alloc ?_ ?_ _) | (with_reducible refine Below.setCell ?_ ?_ _) | (with_reducible refine Below.drew ?_) | (with_reducible refine below_drewN ?_ _) | (refine Below.trans ?_ (Below.mono (by assumption) ?_)) | (with_reducible exact Nat.le_refl _) | (with_reducible assumption) | (exact Below.size (by assumption)) | omega | go_size | (simp at *; omega))) (Nat.le_refl _)) (fun h => by cases h) Try.underlying22 inf_int rfl rfl _ _ rfl rfl rfl (by have := HTI.out; omega) (by have := hb5.size; first | exact this | omega) ?_; intro v6 w6 ho6 hb6 hg6)
          | (go_simp; go_wp2_with (go_at_call 96; refine (HC9.out _ ?_).mono ?_; (exact (by repeat' (first | exact Below.refl _ _ | (with_reducible assumption) | (with_reducible refine Below.alloc ?_ ?_ _) | (with_reducible refine Below.setCell ?_ ?_ _) | (with_reducible refine Below.drew ?_) | (with_reducible refine below_drewN ?_ _) | (refine Below.trans ?_ (Below.mono (by assumption) ?_)) | (with_reducible exact Nat.le_refl _) | (with_reducible assumption) | (exact Below.size (by assumption)) | omega | go_size | (simp at *; omega)))); rintro e w5 ⟨A5, c5, rfl, ho5, hb5⟩)))
        have hb5' : Below w4.heap.size w4 w5 := (by repeat' (first | exact Below.refl _ _ | (with_reducible assumption) | (with_reducible refine Below.alloc ?_ ?_ _) | (with_reducible refine Below.setCell ?_ ?_ _) | (with_reducible refine Below.drew ?_) | (with_reducible refine below_drewN ?_ _) | (refine Below.trans ?_ (Below.mono (by assumption) ?_)) | (with_reducible exact Nat.le_refl _) | (with_reducible assumption) | (exact Below.size (by assumption)) | omega | go_size | (simp at *; omega)))
        have ho6 : w6.ownsRow w4.heap.size 2 1 v6 (restP q I K).length (ints (restP q I K)) := ho6
        obtain ⟨A7, c7, rfl⟩ := own_form ho6
        go_simp
        go_wp2
        go_roundw
        case rel =>
          refine ⟨restP q I K, f', rows ++ [cutP q I K], ?_, ?_, ?_, ?_, own_more ho6 hB4.size, ?_, ?_⟩
          · show _ ∨ _
            rcases hRQ.out with h | h
            · left; rw [h]; rfl
            · exact .inr h
          · have := HRL.out; omega
          · have := HRL.out; rw [List.length_append, List.length_singleton]; omega
          · show _ = _
            rw [← HE.out]; simp
          · exact ((hG4.up hz4).lo (hb5'.trans (hb6.mono (Nat.le_refl _))) (Nat.le_refl _)).up (by have := hb5'.size; have := hb6.size; first | omega | (simp at *; omega))
          · exact hB4.trans (Below.mono (hb5'.trans hb6) hB4.size)
        case measure =>
          have := HRL.out
          simp; omega
      · have hck' : c6 = K := by omega
        obtain rfl := hck'
        have HD : Hid (q.drop c6 = []) := by show _ = _; exact List.drop_eq_nil_of_le (by omega)
        go_wp2
        go_region_law (first
          | (refine step_app_ints (B := w4.heap.size) (base := w4.heap.size) (xs := q.take I) (by first | exact ho5 | exact own_drew ho5) _ _ _ [] (show Rd _ w4.heap.size 1 (some ⟨g6, 0, none⟩) 0 (ints []) from ⟨rfl, fun h => absurd h (by omega)⟩) (fun h => by cases h) Try.underlying22 inf_int rfl rfl _ _ rfl rfl rfl (by have := HTI.out; omega) (by have := hb5.size; first | exact this | omega) ?_; intro v6 w6 ho6 hb6 hg6)
          | (go_simp; go_wp2_with (go_at_call 96; refine (HC9.out _ ?_).mono ?_; (exact (by repeat' (first | exact Below.refl _ _ | (with_reducible assumption) | (with_reducible refine Below.alloc ?_ ?_ _) | (with_reducible refine Below.setCell ?_ ?_ _) | (with_reducible refine Below.drew ?_) | (with_reducible refine below_drewN ?_ _) | (refine Below.trans ?_ (Below.mono (by assumption) ?_)) | (with_reducible exact Nat.le_refl _) | (with_reducible assumption) | (exact Below.size (by assumption)) | omega | go_size | (simp at *; omega)))); rintro e w5 ⟨A5, c5, rfl, ho5, hb5⟩)))
        have hb5' : Below w4.heap.size w4 w5 := (by repeat' (first | exact Below.refl _ _ | (with_reducible assumption) | (with_reducible refine Below.alloc ?_ ?_ _) | (with_reducible refine Below.setCell ?_ ?_ _) | (with_reducible refine Below.drew ?_) | (with_reducible refine below_drewN ?_ _) | (refine Below.trans ?_ (Below.mono (by assumption) ?_)) | (with_reducible exact Nat.le_refl _) | (with_reducible assumption) | (exact Below.size (by assumption)) | omega | go_size | (simp at *; omega)))
        have ho6 : w6.ownsRow w4.heap.size 2 1 v6 (restP q I c6).length (ints (restP q I c6)) := by unfold restP; rw [HD.out]; exact ho6
        obtain ⟨A7, c7, rfl⟩ := own_form ho6
        go_simp
        go_wp2
        go_roundw
        case rel =>
          refine ⟨restP q I c6, f', rows ++ [cutP q I c6], ?_, ?_, ?_, ?_, own_more ho6 hB4.size, ?_, ?_⟩
          · show _ ∨ _
            rcases hRQ.out with h | h
            · left; rw [h]; rfl
            · exact .inr h
          · have := HRL.out; omega
          · have := HRL.out; rw [List.length_append, List.length_singleton]; omega
          · show _ = _
            rw [← HE.out]; simp
          · exact ((hG4.up hz4).lo (hb5'.trans (hb6.mono (Nat.le_refl _))) (Nat.le_refl _)).up (by have := hb5'.size; have := hb6.size; first | omega | (simp at *; omega))
          · exact hB4.trans (Below.mono (hb5'.trans hb6) hB4.size)
        case measure =>
          have := HRL.out
          simp; omega
    · have hq0 : q.length = 0 := by omega
      have he := he.out
      rw [partsF_no _ hq0, List.append_nil] at he
      have HE := hid he
      clear he hq0
      go_wp2
      go_ret2
      rw [← HE.out]
      exact ⟨_, rfl, hG, hb0⟩
set_option maxRecDepth 100000 in
set_option maxHeartbeats 1000000 in
theorem specPrimeParts_ok (A : Option Addr) (n c : Nat) (p : List Int) (w : World) (hlo : loB p = true) (hp : okP p = true) (hn : n ≤ 1099511627776) (hr : Rd w w.heap.size 1 A n (ints p)) :
    Calls Try.prog 32 #[.slice A n c] w fun e w' => ∃ v, e = .returned (.tuple #[v, .int .i64 0]) ∧ Grid w' w.heap.size w'.heap.size v (partsP p) ∧ Below w.heap.size w w' := by
  have hlen := hr.len
  have hth := thOk_iff (okP_th hp)
  have hn1 : 1 ≤ n := by omega
  have hn2 : n ≤ 12 := by omega
  have hA : A = none → c = 0 := by
    obtain ⟨b, off, e, _⟩ := hr.2 (by omega)
    intro h; rw [h] at e; cases e
  have hC := l11Code_any A n c p w hn hr
  rw [(loC_iff p).2 hlo] at hC
  have hC := hid hC
  have HR := hid hr
  have HA := hid hA
  have HP := hid hp
  have hst : Hid (([] : List (List Int)) ++ partsF n p = partsP p) := by show _ = _; rw [partsP, hlen]; rfl
  have HL := hid hlen
  generalize partsP p = R at *
  clear hr hth hlo hp hA hlen
  go_enter Try.func32, Try.ntmps32
  go_wp2_with (first | (go_at_call 82; refine (hC.out).mono ?_; rintro e w1 ⟨rfl, hb1⟩; first | (have hk1 := bchain (by assumption) hb1; obtain ⟨hc1, hf1, hz1, hl1⟩ := bcell hk1) | (obtain ⟨hc1, hf1, hz1, hl1⟩ := bcell hb1)) | (go_at_call 95; refine (l00Own_any A n c p _ (by omega) HA.out (((HR.out.below hb1 (Nat.le_refl _)).alloc hb1.size _).more (by have := hb1.size; simp; omega))).mono ?_; rintro e w2 ⟨v2, rfl, ho2, hb2⟩))
  have z2 : w.heap.size ≤ w2.heap.size := by have h := hb2.size; have h1 := hb1.size; simp at h; omega
  have hB2 : Below w.heap.size w w2 := (by repeat' (first | exact Below.refl _ _ | (with_reducible assumption) | (with_reducible refine Below.alloc ?_ ?_ _) | (with_reducible refine Below.setCell ?_ ?_ _) | (with_reducible refine Below.drew ?_) | (with_reducible refine below_drewN ?_ _) | (refine Below.trans ?_ (Below.mono (by assumption) ?_)) | (with_reducible exact Nat.le_refl _) | (with_reducible assumption) | (exact Below.size (by assumption)) | omega | go_size | (simp at *; omega)))
  have ho2 := own_more ho2 (show w.heap.size ≤ _ by have h1 := hb1.size; simp; omega)
  have hst1 : Grid w2 w.heap.size w2.heap.size (.slice (some ⟨w1.heap.size, 0, none⟩) 0 0) [] := ((Grid.lit w1 w1.heap.size hb1.size).below hb2).up (by first | exact Nat.le_trans (by simp) hb2.size | (have := hb2.size; simp at this; omega))
  rw [← HL.out] at ho2
  go_loopw [5, 6] (fun v5 v6 wr => ∃ (q : List Int) (f : Nat) (rows : List (List Int)), Hid (q.length = 0 ∨ okP q = true) ∧ q.length ≤ f ∧ rows.length + q.length ≤ 12 ∧ Hid (rows ++ partsF f q = R) ∧ wr.ownsRow w.heap.size 2 1 v6 q.length (ints q) ∧ Grid wr w.heap.size wr.heap.size v5 rows ∧ Below w.heap.size w wr) (fun _ v _ => match v with | .slice _ m _ => m | _ => 0)
  case atStart => exact ⟨p, n, [], .inr HP.out, by have := HL.out; omega, by have := HL.out; simp; omega, hst, ho2, hst1, hB2⟩
  case round =>
    obtain ⟨q, f, rows, hq, hqf, hqr, he, ho, hG, hb0⟩ := hrel
    obtain ⟨A6, c6, rfl, hA6, hc6⟩ := own_form2 ho
    have hA6 := hid hA6
    clear ho2 hst hst1 hB2 hb1 hb2
    have hz0 := hb0.size
    by_cases hlt : 0 < q.length
    · have hok : okP q = true := by
        rcases hq.out with h | h
        · omega
        · exact h
      obtain ⟨g6, rfl⟩ : ∃ g6, A6 = some ⟨g6, 0, none⟩ := by
        rcases ho.2 with ⟨_, h0⟩ | ⟨g6, _, _, hv, _⟩
        · omega
        · injection hv with h1 _ _
          exact ⟨g6, h1⟩
      obtain ⟨f', rfl⟩ : ∃ f', f = f' + 1 := ⟨f - 1, by omega⟩
      have hRQ := restR_ok hok
      have he := he.out
      rw [partsF_go (by omega)] at he
      obtain ⟨hi1, hi2⟩ := repR_bd (p := q) hlt
      have hcl := cutP_len (i := (repR q).1) hi2
      have hrl := restP_len (Nat.le_of_lt hi1) hi2
      have hF := l11Repeat_any (some ⟨g6, 0, none⟩) q.length c6 q wr hok (Rd.of_own ho)
      obtain ⟨⟨I, K⟩, hIK⟩ : ∃ x, repR q = x := ⟨_, rfl⟩
      rw [hIK] at he hi1 hi2 hcl hrl hRQ hF
      dsimp only at he hi1 hi2 hcl hrl hRQ hF
      have hRQ := hid hRQ
      have hF := hid hF
      have HE := hid he
      have HCL := hid hcl
      have HRL := hid hrl
      clear he hcl hrl hIK hq hok
      go_wp2_with (go_at_call 86; refine hF.out.mono ?_; rintro e w1 ⟨rfl, hb1⟩)
      have ho1 := own_below ho hb1
      have hz1 := hb1.size
      have hcut : Rd w1 w1.heap.size 1 (some ⟨g6, I, none⟩) (K - I) (ints (cutP q I K)) := by
        have := Rd.cut (Rd.of_own ho1) (Nat.le_of_lt hi1) hi2
        rwa [Nat.zero_add] at this
      have HCU := hid (l00Own_any (some ⟨g6, I, none⟩) (K - I) (c6 - I) (cutP q I K) w1 (by omega) (fun h => by cases h) hcut)
      clear hcut
      go_wp2_with fail
      refine HCU.out.mono ?_
      rintro e w3 ⟨v3, rfl, ho3, hb3⟩
      have hz3 := hb3.size
      have hG3 := (hG.below hb1).below hb3
      have hl3 : (K - I) = (cutP q I K).length := HCL.out.symm
      rw [hl3] at ho3
      obtain ⟨A3, c3, rfl⟩ := own_form ho3
      have ho3' := own_more ho3 (show w.heap.size ≤ w1.heap.size by omega)
      have hum : ∀ g, (Value.slice A3 (cutP q I K).length c3).ownBlock = some g → wr.heap.size ≤ g := fun g h => by have := (ho3.lt g h).1; omega
      have horest := own_below ho1 hb3
      have HL3 := hid hl3
      have hwz : wr.heap.size ≤ w3.heap.size := by omega
      clear hl3
      have f1 : (I : Int) ≤ (c6 : Int) := by omega
      have f2 : (0 : Int) ≤ (I : Int) := by omega
      have f3 : (K : Int) ≤ (q.length : Int) := by omega
      have f4 : (0 : Int) ≤ (K : Int) := by omega
      have f5 : I ≤ c6 := by omega
      have f6 : K ≤ c6 := by omega
      go_wp2_with (at_builtin; refine push_row hG3 ho3' hum hwz _ Try.underlying39 inf_row rfl _ _ rfl rfl rfl (by omega) (by omega) ?_; intro v4 w4 hG4 hb4 hg4)
      have hz4 := hb4.size
      have hor4 := hG3.other horest (by decide) hg4
      have hR1 : Rd w4 w4.heap.size 1 (some ⟨g6, 0, none⟩) I (ints (q.take I)) := by
        have := Rd.cut (Rd.of_own hor4) (Nat.zero_le I) (by omega)
        simpa using this
      have hR2 : Rd w4 w4.heap.size 1 (some ⟨g6, K, none⟩) (q.length - K) (ints (q.drop K)) := by
        have := Rd.cut (Rd.of_own hor4) hi2 (Nat.le_refl _)
        simpa using this
      have hti : (q.take I).length = I := by rw [List.length_take]; omega
      have HC9 := hid (fun (w' : World) (b : Below w4.heap.size w4 w') => (l00Own_any (some ⟨g6, 0, none⟩) I c6 (q.take I) w' (by omega) (fun h => by cases h) ((hR1.below b (Nat.le_refl _)).more b.size)).mono (fun e w'' h => show ∃ A c, e = .returned (.slice A I c) ∧ w''.ownsRow w4.heap.size 2 1 (.slice A I c) (q.take I).length (ints (q.take I)) ∧ Below w'.heap.size w' w'' by
        obtain ⟨v, h1, h2, h3⟩ := h
        obtain ⟨A, c, rfl⟩ := own_form h2
        exact ⟨A, c, h1, by rw [hti]; exact own_more h2 b.size, h3⟩))
      have hdk : (q.drop K).length = q.length - K := by rw [List.length_drop]
      have HTI := hid hti
      have HR2 := hid hR2
      have hB4 : Below w.heap.size w w4 := by
        have h1 : Below w.heap.size w w1 := bchain hb0 hb1
        have h3 : Below w.heap.size w w3 := bchain h1 hb3
        exact h3.trans (hb4.mono (by omega))
      clear hti hdk hR1 hR2 ho1 ho3 ho3' hum horest hG3 hF HCU hg4 hor4 hG hb0 hb1 hb3 hb4
      rcases Nat.lt_or_ge K c6 with hck | hck
      · have hck' : ¬ c6 = K := by omega
        refine (HC9.out _ (Below.refl _ _)).mono ?_
        rintro e w5 ⟨A5, c5, rfl, ho5, hb5⟩
        go_wp2_with (at_builtin; refine app_ints (B := w4.heap.size) (base := w4.heap.size) (xs := q.take I) (by first | exact ho5 | exact own_drew ho5) _ _ _ (q.drop K) (Rd.below HR2.out (C := w4.heap.size) (by repeat' (first | exact Below.refl _ _ | (with_reducible assumption) | (with_reducible refine Below.alloc ?_ ?_ _) | (with_reducible refine Below.setCell ?_ ?_ _) | (with_reducible refine Below.drew ?_) | (with_reducible refine below_drewN ?_ _) | (refine Below.trans ?_ (Below.mono (by assumption) ?_)) | (with_reducible exact Nat.le_refl _) | (with_reducible assumption) | (exact Below.size (by assumption)) | omega | go_size | (simp at *; omega))) (Nat.le_refl _)) (fun h => by cases h) Try.underlying22 inf_int rfl rfl _ _ rfl rfl rfl (by have := HTI.out; omega) (by have := hb5.size; first | exact this | omega) ?_; intro v6 w6 ho6 hb6 hg6; have hb5' : Below w4.heap.size w4 w5 := (by repeat' (first | exact Below.refl _ _ | (with_reducible assumption) | (with_reducible refine Below.alloc ?_ ?_ _) | (with_reducible refine Below.setCell ?_ ?_ _) | (with_reducible refine Below.drew ?_) | (with_reducible refine below_drewN ?_ _) | (refine Below.trans ?_ (Below.mono (by assumption) ?_)) | (with_reducible exact Nat.le_refl _) | (with_reducible assumption) | (exact Below.size (by assumption)) | omega | go_size | (simp at *; omega))); have ho6 : w6.ownsRow w4.heap.size 2 1 v6 (restP q I K).length (ints (restP q I K)) := ho6; obtain ⟨A7, c7, rfl⟩ := own_form ho6)
        go_roundw
        case rel =>
          refine ⟨restP q I K, f', rows ++ [cutP q I K], ?_, ?_, ?_, ?_, own_more ho6 hB4.size, ?_, ?_⟩
          · show _ ∨ _
            rcases hRQ.out with h | h
            · left; rw [h]; rfl
            · exact .inr h
          · have := HRL.out; omega
          · have := HRL.out; rw [List.length_append, List.length_singleton]; omega
          · show _ = _
            rw [← HE.out]; simp
          · exact ((hG4.up hz4).lo (hb5'.trans (hb6.mono (Nat.le_refl _))) (Nat.le_refl _)).up (by have := hb5'.size; have := hb6.size; first | omega | (simp at *; omega))
          · exact hB4.trans (Below.mono (hb5'.trans hb6) hB4.size)
        case measure =>
          have := HRL.out
          simp; omega
      · have hck' : c6 = K := by omega
        obtain rfl := hck'
        have HD : Hid (q.drop c6 = []) := by show _ = _; exact List.drop_eq_nil_of_le (by omega)
        refine (HC9.out _ (Below.refl _ _)).mono ?_
        rintro e w5 ⟨A5, c5, rfl, ho5, hb5⟩
        go_wp2_with (at_builtin; refine app_ints (B := w4.heap.size) (base := w4.heap.size) (xs := q.take I) (by first | exact ho5 | exact own_drew ho5) _ _ _ [] (show Rd _ w4.heap.size 1 (some ⟨g6, 0, none⟩) 0 (ints []) from ⟨rfl, fun h => absurd h (by omega)⟩) (fun h => by cases h) Try.underlying22 inf_int rfl rfl _ _ rfl rfl rfl (by have := HTI.out; omega) (by have := hb5.size; first | exact this | omega) ?_; intro v6 w6 ho6 hb6 hg6; have hb5' : Below w4.heap.size w4 w5 := (by repeat' (first | exact Below.refl _ _ | (with_reducible assumption) | (with_reducible refine Below.alloc ?_ ?_ _) | (with_reducible refine Below.setCell ?_ ?_ _) | (with_reducible refine Below.drew ?_) | (with_reducible refine below_drewN ?_ _) | (refine Below.trans ?_ (Below.mono (by assumption) ?_)) | (with_reducible exact Nat.le_refl _) | (with_reducible assumption) | (exact Below.size (by assumption)) | omega | go_size | (simp at *; omega))); have ho6 : w6.ownsRow w4.heap.size 2 1 v6 (restP q I c6).length (ints (restP q I c6)) := (by unfold restP; rw [HD.out]; exact ho6); obtain ⟨A7, c7, rfl⟩ := own_form ho6)
        go_roundw
        case rel =>
          refine ⟨restP q I c6, f', rows ++ [cutP q I c6], ?_, ?_, ?_, ?_, own_more ho6 hB4.size, ?_, ?_⟩
          · show _ ∨ _
            rcases hRQ.out with h | h
            · left; rw [h]; rfl
            · exact .inr h
          · have := HRL.out; omega
          · have := HRL.out; rw [List.length_append, List.length_singleton]; omega
          · show _ = _
            rw [← HE.out]; simp
          · exact ((hG4.up hz4).lo (hb5'.trans (hb6.mono (Nat.le_refl _))) (Nat.le_refl _)).up (by have := hb5'.size; have := hb6.size; first | omega | (simp at *; omega))
          · exact hB4.trans (Below.mono (hb5'.trans hb6) hB4.size)
        case measure =>
          have := HRL.out
          simp; omega
    · have hq0 : q.length = 0 := by omega
      have he := he.out
      rw [partsF_no _ hq0, List.append_nil] at he
      have HE := hid he
      clear he hq0
      go_wp2
      go_ret2
      rw [← HE.out]
      exact ⟨_, rfl, hG, hb0⟩
theorem PrimeParts_any (A : Option Addr) (n c : Nat) (p : List Int) (w : World) (hn : n ≤ 1099511627776) (hr : Rd w w.heap.size 1 A n (ints p)) :
    Calls Try.prog 33 #[.slice A n c] w fun e w' => ∃ v, e = .returned (.tuple #[v, .int .i64 (rPrimeParts p).2]) ∧ Grid w' w.heap.size w'.heap.size v (rPrimeParts p).1 ∧ Below w.heap.size w w' := by
  by_cases k : loB p = true
  · have e : rPrimeParts p = (partsP p, 0) := by simp [rPrimeParts, k]
    rw [e]
    exact PrimeParts_ok A n c p w k (loB_iff.1 k).1 hn hr
  · have hC := lowCode_any A n c p w hn hr
    have hs : Hid (rPrimeParts p = ([], loC p)) := by show _ = _; simp [rPrimeParts, k]
    have hq : (loC p != 0) = true := by have : loC p ≠ 0 := fun e => k ((loC_iff p).1 e); simpa using this
    have hC := hid hC
    generalize loC p = C at *
    clear k hr
    go_enter Try.func33, Try.ntmps33
    go_wp2_with (first | (go_at_call 87; refine (hC.out).mono ?_; rintro e w1 ⟨rfl, hb1⟩; first | (have hk1 := bchain (by assumption) hb1; obtain ⟨hc1, hf1, hz1, hl1⟩ := bcell hk1) | (obtain ⟨hc1, hf1, hz1, hl1⟩ := bcell hb1)))
    go_ret2
    rw [hs.out]
    exact ⟨_, rfl, Grid.nil _ _ _, (by repeat' (first | exact Below.refl _ _ | (with_reducible assumption) | (with_reducible refine Below.alloc ?_ ?_ _) | (with_reducible refine Below.setCell ?_ ?_ _) | (with_reducible refine Below.drew ?_) | (with_reducible refine below_drewN ?_ _) | (refine Below.trans ?_ (Below.mono (by assumption) ?_)) | (with_reducible exact Nat.le_refl _) | (with_reducible assumption) | (exact Below.size (by assumption)) | omega | go_size | (simp at *; omega)))⟩
theorem specPrimeParts_any (A : Option Addr) (n c : Nat) (p : List Int) (w : World) (hn : n ≤ 1099511627776) (hr : Rd w w.heap.size 1 A n (ints p)) :
    Calls Try.prog 32 #[.slice A n c] w fun e w' => ∃ v, e = .returned (.tuple #[v, .int .i64 (rPrimeParts p).2]) ∧ Grid w' w.heap.size w'.heap.size v (rPrimeParts p).1 ∧ Below w.heap.size w w' := by
  by_cases k : loB p = true
  · have e : rPrimeParts p = (partsP p, 0) := by simp [rPrimeParts, k]
    rw [e]
    exact specPrimeParts_ok A n c p w k (loB_iff.1 k).1 hn hr
  · have hC := l11Code_any A n c p w hn hr
    have hs : Hid (rPrimeParts p = ([], loC p)) := by show _ = _; simp [rPrimeParts, k]
    have hq : (loC p != 0) = true := by have : loC p ≠ 0 := fun e => k ((loC_iff p).1 e); simpa using this
    have hC := hid hC
    generalize loC p = C at *
    clear k hr
    go_enter Try.func32, Try.ntmps32
    go_wp2_with (first | (go_at_call 82; refine (hC.out).mono ?_; rintro e w1 ⟨rfl, hb1⟩; first | (have hk1 := bchain (by assumption) hb1; obtain ⟨hc1, hf1, hz1, hl1⟩ := bcell hk1) | (obtain ⟨hc1, hf1, hz1, hl1⟩ := bcell hb1)))
    go_ret2
    rw [hs.out]
    exact ⟨_, rfl, Grid.nil _ _ _, (by repeat' (first | exact Below.refl _ _ | (with_reducible assumption) | (with_reducible refine Below.alloc ?_ ?_ _) | (with_reducible refine Below.setCell ?_ ?_ _) | (with_reducible refine Below.drew ?_) | (with_reducible refine below_drewN ?_ _) | (refine Below.trans ?_ (Below.mono (by assumption) ?_)) | (with_reducible exact Nat.le_refl _) | (with_reducible assumption) | (exact Below.size (by assumption)) | omega | go_size | (simp at *; omega)))⟩
theorem PrimeParts_row (p : List Int) : ∀ r ∈ (rPrimeParts p).1, r.length ≤ 12 := by
  unfold rPrimeParts
  split
  · rename_i h
    exact (partsF_row _ p (thOk_iff (okP_th (loB_iff.1 h).1)).2.2).2
  · intro r hr; cases hr
theorem PrimeParts_len (p : List Int) : (rPrimeParts p).1.length ≤ 12 := by
  unfold rPrimeParts
  split
  · rename_i h
    have h1 := (thOk_iff (okP_th (loB_iff.1 h).1)).2.2
    have := (partsF_row p.length p h1).1
    show (partsF p.length p).length ≤ 12
    omega
  · simp
theorem tot_le_mul' : ∀ (rs : List (List Int)) (b : Nat), (∀ r ∈ rs, r.length ≤ b) → tot rs ≤ rs.length * b := by
  intro rs
  induction rs with
  | nil => intro b _; simp [tot]
  | cons r rs ih =>
    intro b h
    have h1 := h r List.mem_cons_self
    have h2 := ih b fun r2 hr => h r2 (List.mem_cons_of_mem _ hr)
    simp only [tot, List.length_cons, Nat.add_mul, Nat.one_mul]; omega
theorem PrimeParts_tot (p : List Int) : tot (rPrimeParts p).1 ≤ 144 := by
  have h1 := tot_le_mul' (rPrimeParts p).1 12 (PrimeParts_row p)
  have h2 := PrimeParts_len p
  have := Nat.mul_le_mul_right 12 h2
  omega
end Go.Proofs.Yteaabniemlnjbaa
