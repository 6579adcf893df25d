/- Several texts in one: Pq, Pp, Vi, Fc, Fj, Fk, Fi. -/
import Derived.Test.YtlbhfjbbkkkldaaCv
import Derived.Test.YtlbhfjbbkkkldaaFr
import Derived.Test.YtlbhfjbbkkkldaaFw
import Derived.Test.YtlbhfjbbkkkldaaCo
import Derived.Test.YtlbhfjbbkkkldaaGl
import Derived.Test.YtlbhfjbbkkkldaaPu
import Derived.Deep.LoopGhost
import Derived.Deep.DeepCutAuto
import Derived.Deep.RegionWith
import Derived.Deep.RegionLaw
import Derived.Test.YtlbhfjbbkkkldaaPc
import Derived.Test.YtlbhfjbbkkkldaaDw
import Derived.Test.YtlbhfjbbkkkldaaHi
import Derived.Test.YtlbhfjbbkkkldaaPx
import Derived.Test.YtlbhfjbbkkkldaaLa
/- Plain facts: the prime parts of a pattern. Nothing of the program is named here. -/
namespace Go.Proofs.Ytlbhfjbbkkkldaa
open Go.RowKit
set_option linter.unusedVariables false

/-- The states before the two beats are equal. -/
theorem repR_air {p : List Int} (h : okP p = true) (t : Nat) : Air p (((repR p).1 : Nat) : Int) t ↔ Air p (((repR p).2 : Nat) : Int) t := by
  have hn := (thOk_iff (okP_th h)).2.1
  obtain ⟨g1, g2⟩ := repR_bd hn
  have g4 : mskF p (repR p).1 = mskF p (repR p).2 := by
    have h0 := repC_all hn
    generalize repR p = R at *
    obtain ⟨i, k⟩ := R
    exact (col2_some h0).2.2.2
  have hH : hiT p ≤ (hgt p : Nat) := by rw [hgt_int]; omega
  generalize (repR p).1 = i at *
  generalize (repR p).2 = k at *
  have e1 : mskF p i = ((stM p (i : Int) (hgt p) : Nat) : Int) := by
    unfold mskF
    rw [if_pos (by omega), List.getD_eq_getElem?_getD, mskP_at (by omega)]; rfl
  have e0 : (mskP p (hgt p)).getD 0 0 = ((stM p ((0 : Nat) : Int) (hgt p) : Nat) : Int) := by
    rw [List.getD_eq_getElem?_getD, mskP_at (by omega)]; rfl
  by_cases hk : k < p.length
  · have e2 : mskF p k = ((stM p (k : Int) (hgt p) : Nat) : Int) := by
      unfold mskF
      rw [if_pos hk, List.getD_eq_getElem?_getD, mskP_at hk]; rfl
    rw [e1, e2] at g4
    exact air_eq_of h hH (by omega) t
  · have hkn : k = p.length := by omega
    have e2 : mskF p k = ((stM p ((0 : Nat) : Int) (hgt p) : Nat) : Int) := by
      unfold mskF
      rw [if_neg hk, e0]
    rw [e1, e2] at g4
    have h1 := air_eq_of h hH (x := (i : Int)) (y := ((0 : Nat) : Int)) (by omega) t
    have h2 := air_per h 0 t
    rw [Int.zero_add] at h2
    rw [hkn, h1, h2]; rfl
theorem cutR_ok {p : List Int} (h : okP p = true) : okP (cutP p (repR p).1 (repR p).2) = true := by
  obtain ⟨g1, g2⟩ := repR_bd (thOk_iff (okP_th h)).2.1
  exact (cut_fold g1 g2 (repR_air h)).ok h (cut_th (okP_th h) g1 g2)
theorem restR_ok {p : List Int} (h : okP p = true) : restP p (repR p).1 (repR p).2 = [] ∨ okP (restP p (repR p).1 (repR p).2) = true := by
  obtain ⟨g1, g2⟩ := repR_bd (thOk_iff (okP_th h)).2.1
  by_cases hne : (repR p).2 - (repR p).1 < p.length
  · exact .inr ((rest_fold h g1 g2 hne (repR_air h)).ok h (rest_th (okP_th h) g1 g2 hne))
  · left
    apply List.eq_nil_of_length_eq_zero
    rw [restP_len (by omega) g2]; omega
/-- The prime parts. -/
def partsF : Nat → List Int → List (List Int)
  | 0, _ => []
  | f + 1, p => if p.length = 0 then [] else cutP p (repR p).1 (repR p).2 :: partsF f (restP p (repR p).1 (repR p).2)
def partsP (p : List Int) : List (List Int) := partsF p.length p
theorem partsF_no (f : Nat) {p : List Int} (h : p.length = 0) : partsF f p = [] := by
  cases f with
  | zero => rfl
  | succ f => simp [partsF, h]
theorem partsF_go {f : Nat} {p : List Int} (h : ¬ p.length = 0) : partsF (f + 1) p = cutP p (repR p).1 (repR p).2 :: partsF f (restP p (repR p).1 (repR p).2) := by simp [partsF, h]
theorem partsF_row : ∀ (f : Nat) (p : List Int), p.length ≤ 12 → (partsF f p).length ≤ p.length ∧ ∀ r ∈ partsF f p, r.length ≤ 12 := by
  intro f
  induction f with
  | zero => intro p _; simp [partsF]
  | succ f ih =>
    intro p hp
    by_cases h : p.length = 0
    · rw [partsF_no _ h]; simp
    · rw [partsF_go h]
      obtain ⟨g1, g2⟩ := repR_bd (p := p) (by omega)
      have hr : (restP p (repR p).1 (repR p).2).length = p.length - ((repR p).2 - (repR p).1) := restP_len (by omega) g2
      obtain ⟨i1, i2⟩ := ih (restP p (repR p).1 (repR p).2) (by omega)
      refine ⟨by rw [List.length_cons]; omega, fun r hr => ?_⟩
      rcases List.mem_cons.1 hr with rfl | hr
      · rw [cutP_len g2]; omega
      · exact i2 r hr
end Go.Proofs.Ytlbhfjbbkkkldaa

/- Contracts of PrimeParts, and the walk of its law. -/
namespace Go.Proofs.Ytlbhfjbbkkkldaa
open Go.RowKit
set_option linter.unusedVariables false

theorem own_drew {w : World} {base e sz n : Nat} {v : Value} {xs : List Value} (h : w.ownsRow base e sz v n xs) : w.drew.ownsRow base e sz v n xs := h

def rPrimeParts (p : List Int) : List (List Int) × Int := if loB p then (partsP p, 0) else ([], loC p)
set_option maxRecDepth 100000 in
set_option maxHeartbeats 1000000 in
theorem PrimeParts_ok (A : Option Addr) (n c : Nat) (p : List Int) (w : World) (hlo : loB p = true) (hp : okP p = true) (hn : n ≤ 1099511627776) (hr : Rd w w.heap.size 1 A n (ints p)) :
    Calls Try.prog 66 #[.slice A n c] w fun e w' => ∃ v, e = .returned (.tuple #[v, .int .i64 0]) ∧ Grid w' w.heap.size w'.heap.size v (partsP p) ∧ Below w.heap.size w w' := by
  have hlen := hr.len
  have hth := thOk_iff (okP_th hp)
  have hn1 : 1 ≤ n := by omega
  have hn2 : n ≤ 12 := by omega
  have hA : A = none → c = 0 := by
    obtain ⟨b, off, e, _⟩ := hr.2 (by omega)
    intro h; rw [h] at e; cases e
  have hC := lowCode_any A n c p w hn hr
  rw [(loC_iff p).2 hlo] at hC
  have hC := hid hC
  have HR := hid hr
  have HA := hid hA
  have HP := hid hp
  have hst : Hid (([] : List (List Int)) ++ partsF n p = partsP p) := by show _ = _; rw [partsP, hlen]; rfl
  have HL := hid hlen
  generalize partsP p = R at *
  clear hr hth hlo hp hA hlen
  go_enter Try.func66, Try.ntmps66
  go_wp2_with (first | (go_at_call 128; refine (hC.out).mono ?_; rintro e w1 ⟨rfl, hb1⟩; first | (have hk1 := bchain (by assumption) hb1; obtain ⟨hc1, hf1, hz1, hl1⟩ := bcell hk1) | (obtain ⟨hc1, hf1, hz1, hl1⟩ := bcell hb1)) | (go_at_call 109; refine (copyNumbers_any A n c p _ (by omega) HA.out (((HR.out.below hb1 (Nat.le_refl _)).alloc hb1.size _).more (by have := hb1.size; simp; omega))).mono ?_; rintro e w2 ⟨v2, rfl, ho2, hb2⟩))
  have z2 : w.heap.size ≤ w2.heap.size := by have h := hb2.size; have h1 := hb1.size; simp at h; omega
  have hB2 : Below w.heap.size w w2 := (by repeat' (first | exact Below.refl _ _ | (with_reducible assumption) | (with_reducible refine Below.alloc ?_ ?_ _) | (with_reducible refine Below.setCell ?_ ?_ _) | (with_reducible refine Below.drew ?_) | (with_reducible refine below_drewN ?_ _) | (refine Below.trans ?_ (Below.mono (by assumption) ?_)) | (with_reducible exact Nat.le_refl _) | (with_reducible assumption) | (exact Below.size (by assumption)) | omega | go_size | (simp at *; omega)))
  have ho2 := own_more ho2 (show w.heap.size ≤ _ by have h1 := hb1.size; simp; omega)
  have hst1 : Grid w2 w.heap.size w2.heap.size (.slice (some ⟨w1.heap.size, 0, none⟩) 0 0) [] := ((Grid.lit w1 w1.heap.size hb1.size).below hb2).up (by first | exact Nat.le_trans (by simp) hb2.size | (have := hb2.size; simp at this; omega))
  rw [← HL.out] at ho2
  go_loopw [5, 6] (fun v5 v6 wr => ∃ (q : List Int) (f : Nat) (rows : List (List Int)), Hid (q.length = 0 ∨ okP q = true) ∧ q.length ≤ f ∧ rows.length + q.length ≤ 12 ∧ Hid (rows ++ partsF f q = R) ∧ wr.ownsRow w.heap.size 2 1 v6 q.length (ints q) ∧ Grid wr w.heap.size wr.heap.size v5 rows ∧ Below w.heap.size w wr) (fun _ v _ => match v with | .slice _ m _ => m | _ => 0)
  case atStart => exact ⟨p, n, [], .inr HP.out, by have := HL.out; omega, by have := HL.out; simp; omega, hst, ho2, hst1, hB2⟩
  case round =>
    obtain ⟨q, f, rows, hq, hqf, hqr, he, ho, hG, hb0⟩ := hrel
    obtain ⟨A6, c6, rfl, hA6, hc6⟩ := own_form2 ho
    have hA6 := hid hA6
    clear ho2 hst hst1 hB2 hb1 hb2
    have hz0 := hb0.size
    by_cases hlt : 0 < q.length
    · have hok : okP q = true := by
        rcases hq.out with h | h
        · omega
        · exact h
      obtain ⟨g6, rfl⟩ : ∃ g6, A6 = some ⟨g6, 0, none⟩ := by
        rcases ho.2 with ⟨_, h0⟩ | ⟨g6, _, _, hv, _⟩
        · omega
        · injection hv with h1 _ _
          exact ⟨g6, h1⟩
      obtain ⟨f', rfl⟩ : ∃ f', f = f' + 1 := ⟨f - 1, by omega⟩
      have hRQ := restR_ok hok
      have he := he.out
      rw [partsF_go (by omega)] at he
      obtain ⟨hi1, hi2⟩ := repR_bd (p := q) hlt
      have hcl := cutP_len (i := (repR q).1) hi2
      have hrl := restP_len (Nat.le_of_lt hi1) hi2
      have hF := firstRepeat_any (some ⟨g6, 0, none⟩) q.length c6 q wr hok (Rd.of_own ho)
      obtain ⟨⟨I, K⟩, hIK⟩ : ∃ x, repR q = x := ⟨_, rfl⟩
      rw [hIK] at he hi1 hi2 hcl hrl hRQ hF
      dsimp only at he hi1 hi2 hcl hrl hRQ hF
      have hRQ := hid hRQ
      have hF := hid hF
      have HE := hid he
      have HCL := hid hcl
      have HRL := hid hrl
      clear he hcl hrl hIK hq hok
      go_wp2_with (go_at_call 129; refine hF.out.mono ?_; rintro e w1 ⟨rfl, hb1⟩)
      have ho1 := own_below ho hb1
      have hz1 := hb1.size
      have hcut : Rd w1 w1.heap.size 1 (some ⟨g6, I, none⟩) (K - I) (ints (cutP q I K)) := by
        have := Rd.cut (Rd.of_own ho1) (Nat.le_of_lt hi1) hi2
        rwa [Nat.zero_add] at this
      have HCU := hid (copyNumbers_any (some ⟨g6, I, none⟩) (K - I) (c6 - I) (cutP q I K) w1 (by omega) (fun h => by cases h) hcut)
      clear hcut
      go_wp2_with fail
      refine HCU.out.mono ?_
      rintro e w3 ⟨v3, rfl, ho3, hb3⟩
      have hz3 := hb3.size
      have hG3 := (hG.below hb1).below hb3
      have hl3 : (K - I) = (cutP q I K).length := HCL.out.symm
      rw [hl3] at ho3
      obtain ⟨A3, c3, rfl⟩ := own_form ho3
      have ho3' := own_more ho3 (show w.heap.size ≤ w1.heap.size by omega)
      have hum : ∀ g, (Value.slice A3 (cutP q I K).length c3).ownBlock = some g → wr.heap.size ≤ g := fun g h => by have := (ho3.lt g h).1; omega
      have horest := own_below ho1 hb3
      have HL3 := hid hl3
      have hwz : wr.heap.size ≤ w3.heap.size := by omega
      clear hl3
      go_wp2_with (at_builtin; refine push_row hG3 ho3' hum hwz _ Try.underlying24 inf_row rfl _ _ rfl rfl rfl (by omega) (by omega) ?_; intro v4 w4 hG4 hb4 hg4)
      have hz4 := hb4.size
      have hor4 := hG3.other horest (by decide) hg4
      have hR1 : Rd w4 w4.heap.size 1 (some ⟨g6, 0, none⟩) I (ints (q.take I)) := by
        have := Rd.cut (Rd.of_own hor4) (Nat.zero_le I) (by omega)
        simpa using this
      have hR2 : Rd w4 w4.heap.size 1 (some ⟨g6, K, none⟩) (q.length - K) (ints (q.drop K)) := by
        have := Rd.cut (Rd.of_own hor4) hi2 (Nat.le_refl _)
        simpa using this
      have hti : (q.take I).length = I := by rw [List.length_take]; omega
      have HC9 := hid (fun (w' : World) (b : Below w4.heap.size w4 w') => (copyNumbers_any (some ⟨g6, 0, none⟩) I c6 (q.take I) w' (by omega) (fun h => by cases h) ((hR1.below b (Nat.le_refl _)).more b.size)).mono (fun e w'' h => show ∃ A c, e = .returned (.slice A I c) ∧ w''.ownsRow w4.heap.size 2 1 (.slice A I c) (q.take I).length (ints (q.take I)) ∧ Below w'.heap.size w' w'' by
        obtain ⟨v, h1, h2, h3⟩ := h
        obtain ⟨A, c, rfl⟩ := own_form h2
        exact ⟨A, c, h1, by rw [hti]; exact own_more h2 b.size, h3⟩))
      have hdk : (q.drop K).length = q.length - K := by rw [List.length_drop]
      have HTI := hid hti
      have HR2 := hid hR2
      have hB4 : Below w.heap.size w w4 := by
        have h1 : Below w.heap.size w w1 := bchain hb0 hb1
        have h3 : Below w.heap.size w w3 := bchain h1 hb3
        exact h3.trans (hb4.mono (by omega))
      clear hti hdk hR1 hR2 ho1 ho3 ho3' hum horest hG3 hF HCU hg4 hor4 hG hb0 hb1 hb3 hb4
      have f1 : (I : Int) ≤ (c6 : Int) := by omega
      have f2 : (0 : Int) ≤ (I : Int) := by omega
      have f3 : (K : Int) ≤ (q.length : Int) := by omega
      have f4 : (0 : Int) ≤ (K : Int) := by omega
      have f5 : I ≤ c6 := by omega
      have f6 : K ≤ c6 := by omega
      rcases Nat.lt_or_ge K c6 with hck | hck
      · have hck' : ¬ c6 = K := by omega
        go_wp2
        go_region_law (first
          | (refine step_app_ints (B := w4.heap.size) (base := w4.heap.size) (xs := q.take I) (by first | exact ho5 | exact own_drew ho5) _ _ _ (q.drop K) (Rd.below HR2.out (C := w4.heap.size) (by repeat' (first | exact Below.refl _ _ | (with_reducible assumption) | (with_reducible refine Below.alloc ?_ ?_ _) | (with_reducible refine Below.setCell ?_ ?_ _) | (with_reducible refine Below.drew ?_) | (with_reducible refine below_drewN ?_ _) | (refine Below.trans ?_ (Below.mono (by assumption) ?_)) | (with_reducible exact Nat.le_refl _) | (with_reducible assumption) | (exact Below.size (by assumption)) | omega | go_size | (simp at *; omega))) (Nat.le_refl _)) (fun h => by cases h) Try.underlying43 inf_int rfl rfl _ _ rfl rfl rfl (by have := HTI.out; omega) (by have := hb5.size; first | exact this | omega) ?_; intro v6 w6 ho6 hb6 hg6)
          | (go_simp; go_wp2_with (go_at_call 109; refine (HC9.out _ ?_).mono ?_; (exact (by repeat' (first | exact Below.refl _ _ | (with_reducible assumption) | (with_reducible refine Below.alloc ?_ ?_ _) | (with_reducible refine Below.setCell ?_ ?_ _) | (with_reducible refine Below.drew ?_) | (with_reducible refine below_drewN ?_ _) | (refine Below.trans ?_ (Below.mono (by assumption) ?_)) | (with_reducible exact Nat.le_refl _) | (with_reducible assumption) | (exact Below.size (by assumption)) | omega | go_size | (simp at *; omega)))); rintro e w5 ⟨A5, c5, rfl, ho5, hb5⟩)))
        have hb5' : Below w4.heap.size w4 w5 := (by repeat' (first | exact Below.refl _ _ | (with_reducible assumption) | (with_reducible refine Below.alloc ?_ ?_ _) | (with_reducible refine Below.setCell ?_ ?_ _) | (with_reducible refine Below.drew ?_) | (with_reducible refine below_drewN ?_ _) | (refine Below.trans ?_ (Below.mono (by assumption) ?_)) | (with_reducible exact Nat.le_refl _) | (with_reducible assumption) | (exact Below.size (by assumption)) | omega | go_size | (simp at *; omega)))
        have ho6 : w6.ownsRow w4.heap.size 2 1 v6 (restP q I K).length (ints (restP q I K)) := ho6
        obtain ⟨A7, c7, rfl⟩ := own_form ho6
        go_simp
        go_wp2
        go_roundw
        case rel =>
          refine ⟨restP q I K, f', rows ++ [cutP q I K], ?_, ?_, ?_, ?_, own_more ho6 hB4.size, ?_, ?_⟩
          · show _ ∨ _
            rcases hRQ.out with h | h
            · left; rw [h]; rfl
            · exact .inr h
          · have := HRL.out; omega
          · have := HRL.out; rw [List.length_append, List.length_singleton]; omega
          · show _ = _
            rw [← HE.out]; simp
          · exact ((hG4.up hz4).lo (hb5'.trans (hb6.mono (Nat.le_refl _))) (Nat.le_refl _)).up (by have := hb5'.size; have := hb6.size; first | omega | (simp at *; omega))
          · exact hB4.trans (Below.mono (hb5'.trans hb6) hB4.size)
        case measure =>
          have := HRL.out
          simp; omega
      · have hck' : c6 = K := by omega
        obtain rfl := hck'
        have HD : Hid (q.drop c6 = []) := by show _ = _; exact List.drop_eq_nil_of_le (by omega)
        go_wp2
        go_region_law (first
          | (refine step_app_ints (B := w4.heap.size) (base := w4.heap.size) (xs := q.take I) (by first | exact ho5 | exact own_drew ho5) _ _ _ [] (show Rd _ w4.heap.size 1 (some ⟨g6, 0, none⟩) 0 (ints []) from ⟨rfl, fun h => absurd h (by omega)⟩) (fun h => by cases h) Try.underlying43 inf_int rfl rfl _ _ rfl rfl rfl (by have := HTI.out; omega) (by have := hb5.size; first | exact this | omega) ?_; intro v6 w6 ho6 hb6 hg6)
          | (go_simp; go_wp2_with (go_at_call 109; refine (HC9.out _ ?_).mono ?_; (exact (by repeat' (first | exact Below.refl _ _ | (with_reducible assumption) | (with_reducible refine Below.alloc ?_ ?_ _) | (with_reducible refine Below.setCell ?_ ?_ _) | (with_reducible refine Below.drew ?_) | (with_reducible refine below_drewN ?_ _) | (refine Below.trans ?_ (Below.mono (by assumption) ?_)) | (with_reducible exact Nat.le_refl _) | (with_reducible assumption) | (exact Below.size (by assumption)) | omega | go_size | (simp at *; omega)))); rintro e w5 ⟨A5, c5, rfl, ho5, hb5⟩)))
        have hb5' : Below w4.heap.size w4 w5 := (by repeat' (first | exact Below.refl _ _ | (with_reducible assumption) | (with_reducible refine Below.alloc ?_ ?_ _) | (with_reducible refine Below.setCell ?_ ?_ _) | (with_reducible refine Below.drew ?_) | (with_reducible refine below_drewN ?_ _) | (refine Below.trans ?_ (Below.mono (by assumption) ?_)) | (with_reducible exact Nat.le_refl _) | (with_reducible assumption) | (exact Below.size (by assumption)) | omega | go_size | (simp at *; omega)))
        have ho6 : w6.ownsRow w4.heap.size 2 1 v6 (restP q I c6).length (ints (restP q I c6)) := by unfold restP; rw [HD.out]; exact ho6
        obtain ⟨A7, c7, rfl⟩ := own_form ho6
        go_simp
        go_wp2
        go_roundw
        case rel =>
          refine ⟨restP q I c6, f', rows ++ [cutP q I c6], ?_, ?_, ?_, ?_, own_more ho6 hB4.size, ?_, ?_⟩
          · show _ ∨ _
            rcases hRQ.out with h | h
            · left; rw [h]; rfl
            · exact .inr h
          · have := HRL.out; omega
          · have := HRL.out; rw [List.length_append, List.length_singleton]; omega
          · show _ = _
            rw [← HE.out]; simp
          · exact ((hG4.up hz4).lo (hb5'.trans (hb6.mono (Nat.le_refl _))) (Nat.le_refl _)).up (by have := hb5'.size; have := hb6.size; first | omega | (simp at *; omega))
          · exact hB4.trans (Below.mono (hb5'.trans hb6) hB4.size)
        case measure =>
          have := HRL.out
          simp; omega
    · have hq0 : q.length = 0 := by omega
      have he := he.out
      rw [partsF_no _ hq0, List.append_nil] at he
      have HE := hid he
      clear he hq0
      go_wp2
      go_ret2
      rw [← HE.out]
      exact ⟨_, rfl, hG, hb0⟩
theorem PrimeParts_any (A : Option Addr) (n c : Nat) (p : List Int) (w : World) (hn : n ≤ 1099511627776) (hr : Rd w w.heap.size 1 A n (ints p)) :
    Calls Try.prog 66 #[.slice A n c] w fun e w' => ∃ v, e = .returned (.tuple #[v, .int .i64 (rPrimeParts p).2]) ∧ Grid w' w.heap.size w'.heap.size v (rPrimeParts p).1 ∧ Below w.heap.size w w' := by
  by_cases k : loB p = true
  · have e : rPrimeParts p = (partsP p, 0) := by simp [rPrimeParts, k]
    rw [e]
    exact PrimeParts_ok A n c p w k (loB_iff.1 k).1 hn hr
  · have hC := lowCode_any A n c p w hn hr
    have hs : Hid (rPrimeParts p = ([], loC p)) := by show _ = _; simp [rPrimeParts, k]
    have hq : (loC p != 0) = true := by have : loC p ≠ 0 := fun e => k ((loC_iff p).1 e); simpa using this
    have hC := hid hC
    generalize loC p = C at *
    clear k hr
    go_enter Try.func66, Try.ntmps66
    go_wp2_with (first | (go_at_call 128; refine (hC.out).mono ?_; rintro e w1 ⟨rfl, hb1⟩; first | (have hk1 := bchain (by assumption) hb1; obtain ⟨hc1, hf1, hz1, hl1⟩ := bcell hk1) | (obtain ⟨hc1, hf1, hz1, hl1⟩ := bcell hb1)))
    go_ret2
    rw [hs.out]
    exact ⟨_, rfl, Grid.nil _ _ _, (by repeat' (first | exact Below.refl _ _ | (with_reducible assumption) | (with_reducible refine Below.alloc ?_ ?_ _) | (with_reducible refine Below.setCell ?_ ?_ _) | (with_reducible refine Below.drew ?_) | (with_reducible refine below_drewN ?_ _) | (refine Below.trans ?_ (Below.mono (by assumption) ?_)) | (with_reducible exact Nat.le_refl _) | (with_reducible assumption) | (exact Below.size (by assumption)) | omega | go_size | (simp at *; omega)))⟩
theorem PrimeParts_row (p : List Int) : ∀ r ∈ (rPrimeParts p).1, r.length ≤ 12 := by
  unfold rPrimeParts
  split
  · rename_i h
    exact (partsF_row _ p (thOk_iff (okP_th (loB_iff.1 h).1)).2.2).2
  · intro r hr; cases hr
theorem PrimeParts_len (p : List Int) : (rPrimeParts p).1.length ≤ 12 := by
  unfold rPrimeParts
  split
  · rename_i h
    have h1 := (thOk_iff (okP_th (loB_iff.1 h).1)).2.2
    have := (partsF_row p.length p h1).1
    show (partsF p.length p).length ≤ 12
    omega
  · simp
theorem tot_le_mul' : ∀ (rs : List (List Int)) (b : Nat), (∀ r ∈ rs, r.length ≤ b) → tot rs ≤ rs.length * b := by
  intro rs
  induction rs with
  | nil => intro b _; simp [tot]
  | cons r rs ih =>
    intro b h
    have h1 := h r List.mem_cons_self
    have h2 := ih b fun r2 hr => h r2 (List.mem_cons_of_mem _ hr)
    simp only [tot, List.length_cons, Nat.add_mul, Nat.one_mul]; omega
theorem PrimeParts_tot (p : List Int) : tot (rPrimeParts p).1 ≤ 144 := by
  have h1 := tot_le_mul' (rPrimeParts p).1 12 (PrimeParts_row p)
  have h2 := PrimeParts_len p
  have := Nat.mul_le_mul_right 12 h2
  omega
end Go.Proofs.Ytlbhfjbbkkkldaa

/- Contracts of StateVisits, and the walk of its law. -/
namespace Go.Proofs.Ytlbhfjbbkkkldaa
open Go.RowKit
set_option linter.unusedVariables false

/-- How often a number stands in a list. -/
def cq (x : Int) : List Int → Int
  | [] => 0
  | y :: ys => if y = x then 1 + cq x ys else cq x ys
theorem cq_yes {x y : Int} {ys : List Int} (h : y = x) : cq x (y :: ys) = 1 + cq x ys := by simp [cq, h]
theorem cq_not {x y : Int} {ys : List Int} (h : y ≠ x) : cq x (y :: ys) = cq x ys := by simp [cq, h]
def visL (L : List Int) : List Int := L.map fun x => cq x L
def rStateVisits (p : List Int) : List Int × Int := if loB p then (visL (mskP p (hgt p)), 0) else ([], loC p)
theorem StateVisits_len (p : List Int) : (rStateVisits p).1.length ≤ 12 := by
  unfold rStateVisits
  split
  · rename_i h
    have := (thOk_iff (okP_th (loB_iff.1 h).1)).2.2
    show (visL (mskP p (hgt p))).length ≤ 12
    rw [visL, List.length_map, mskP_len]; exact this
  · simp
theorem visL_step {L : List Int} {k : Nat} {x : Int} (h : L[k]? = some x) : (visL L).take (k + 1) = (visL L).take k ++ [cq x L] := by
  rw [List.take_add_one, visL, List.getElem?_map, h]; rfl
set_option maxHeartbeats 1000000 in
theorem StateVisits_any (A : Option Addr) (n c : Nat) (p : List Int) (w : World) (hn : n ≤ 1099511627776) (hr : Rd w w.heap.size 1 A n (ints p)) :
    Calls Try.prog 67 #[.slice A n c] w fun e w' => ∃ v, e = .returned (.tuple #[v, .int .i64 (rStateVisits p).2]) ∧ w'.ownsRow w.heap.size 2 1 v (rStateVisits p).1.length (ints (rStateVisits p).1) ∧ Below w.heap.size w w' := by
  have hC := lowCode_any A n c p w hn hr
  have HR := hid hr
  have hlen := hr.len
  by_cases k : loB p = true
  · rw [(loC_iff p).2 k] at hC
    have hC := hid hC
    have k1 := (loB_iff.1 k).1
    have hth := thOk_iff (okP_th k1)
    have hn2 : n ≤ 12 := by omega
    have hs : Hid (rStateVisits p = (visL (mskP p (hgt p)), 0)) := by show _ = _; simp [rStateVisits, k]
    have hml := mskP_len p (hgt p)
    rw [hlen] at hml
    have HO := hid (fun (w1 : World) (r : Rd w1 w1.heap.size 1 A n (ints p)) => ownStates_any A n c p w1 k1 r)
    generalize mskP p (hgt p) = L at *
    generalize hgt p = H at *
    have HV := hid (fun (k : Nat) (x : Int) (h : L[k]? = some x) => visL_step h)
    have hvl : Hid ((visL L).length = n) := by show _ = _; rw [visL, List.length_map, hml]
    have HML := hid hml
    clear k hr k1 hth hlen hml
    go_enter Try.func67, Try.ntmps67
    go_wp2_with (first | (go_at_call 128; refine (hC.out).mono ?_; rintro e w1 ⟨rfl, hb1⟩; first | (have hk1 := bchain (by assumption) hb1; obtain ⟨hc1, hf1, hz1, hl1⟩ := bcell hk1) | (obtain ⟨hc1, hf1, hz1, hl1⟩ := bcell hb1)) | (go_at_call 130; refine (HO.out _ ((HR.out.below hb1 (Nat.le_refl _)).more hb1.size)).mono ?_; rintro e w2 ⟨v2, rfl, ho2, hb2⟩; obtain ⟨A2, c2, rfl⟩ := own_form ho2; have HL := hid (Rd.of_own ho2); have HB : Hid (Below w.heap.size w w2) := bchain hb1 hb2; clear ho2 hb2))
    have hz2 := HB.out.size
    go_loopw [6, 22] (fun v i wr => ∃ k : Nat, k ≤ n ∧ i = .int .i64 k ∧ wr.ownsRow w2.heap.size 2 1 v ((visL L).take k).length (ints ((visL L).take k)) ∧ Below w2.heap.size w2 wr) (fun _ i _ => n - (intOf i).toNat)
    case atStart => exact ⟨0, Nat.zero_le _, rfl, World.ownsRow_lit _ _ 0 (Nat.le_refl _) (by simp [maxLen]) rfl, (by repeat' (first | exact Below.refl _ _ | (with_reducible assumption) | (with_reducible refine Below.alloc ?_ ?_ _) | (with_reducible refine Below.setCell ?_ ?_ _) | (with_reducible refine Below.drew ?_) | (with_reducible refine below_drewN ?_ _) | (refine Below.trans ?_ (Below.mono (by assumption) ?_)) | (with_reducible exact Nat.le_refl _) | (with_reducible assumption) | (exact Below.size (by assumption)) | omega | go_size | (simp at *; omega)))⟩
    case round =>
      obtain ⟨k, hk, rfl, ho, hb0⟩ := hrel
      obtain ⟨wo, rfl⟩ : ∃ wo : World, wo = wr := ⟨_, rfl⟩
      have hB := hb0.size
      have hol : ((visL L).take k).length ≤ 12 := by rw [List.length_take, hvl.out]; omega
      by_cases hlt : k < n
      · obtain ⟨b, off, x, rfl, hb, hx, hc0, hc1⟩ := (HL.out.below hb0 (Nat.le_refl _)).st_at hlt
        have HVx := hid (HV.out k x hx)
        have hst : Hid (0 + cq x (L.drop 0) = cq x L) := by show _ = _; simp
        have hbx0 : Bx (wo.alloc (Obj.cells #[.int .i64 H, .int .i64 x] 119)) wo.heap.size 119 #[.int .i64 H, .int .i64 x] := Bx.new _ _ _
        clear hx hb
        go_wp2
        go_loopw [9, 28] (fun v i wx => ∃ (t : Nat) (u : Int), t ≤ n ∧ i = .int .i64 t ∧ v = .int .i64 u ∧ 0 ≤ u ∧ u ≤ (t : Int) ∧ Hid (u + cq x (L.drop t) = cq x L) ∧ Bx wx wo.heap.size 119 #[.int .i64 H, .int .i64 x] ∧ Below wo.heap.size wo wx ∧ wo.heap.size + 1 ≤ wx.heap.size) (fun _ i _ => n - (intOf i).toNat)
        case atStart => exact ⟨0, 0, Nat.zero_le _, rfl, rfl, by omega, by omega, hst, hbx0, (by repeat' (first | exact Below.refl _ _ | (with_reducible assumption) | (with_reducible refine Below.alloc ?_ ?_ _) | (with_reducible refine Below.setCell ?_ ?_ _) | (with_reducible refine Below.drew ?_) | (with_reducible refine below_drewN ?_ _) | (refine Below.trans ?_ (Below.mono (by assumption) ?_)) | (with_reducible exact Nat.le_refl _) | (with_reducible assumption) | (exact Below.size (by assumption)) | omega | go_size | (simp at *; omega))), by simp⟩
        case round =>
          obtain ⟨t, u, ht, rfl, rfl, u0, u1, he, hbx, hb3, hz3⟩ := hrel
          clear hst hbx0
          have q0 : wr.cell? ⟨wo.heap.size, 0, none⟩ = some (.int .i64 H) := hbx.cell 0
          have q1 : wr.cell? ⟨wo.heap.size, 1, none⟩ = some (.int .i64 x) := hbx.cell 1
          by_cases hlt2 : t < n
          · obtain ⟨b4, off4, y, hA4, _, hy, hd0, hd1⟩ := (HL.out.below (hb0.trans (hb3.mono hB)) (Nat.le_refl _)).st_at hlt2
            injection hA4 with hA4
            injection hA4 with e1 e2
            subst e1 e2
            have hdr : L.drop t = y :: L.drop (t + 1) := by
              obtain ⟨hh, e⟩ := List.getElem?_eq_some_iff.1 hy
              rw [← e]; exact List.drop_eq_getElem_cons hh
            have he := he.out
            rw [hdr] at he
            have HBX := hid hbx
            have q0' : (wr.alloc (Obj.cells #[.int .i64 H, .int .i64 y] 119)).cell? ⟨wo.heap.size, 0, none⟩ = some (.int .i64 H) := (HBX.out.alloc _).cell 0
            have q1' : (wr.alloc (Obj.cells #[.int .i64 H, .int .i64 y] 119)).cell? ⟨wo.heap.size, 1, none⟩ = some (.int .i64 x) := (HBX.out.alloc _).cell 1
            by_cases hyx : y = x
            · rw [cq_yes hyx] at he
              have HE : Hid ((u + 1) + cq x (L.drop (t + 1)) = cq x L) := by show _ = _; omega
              subst hyx
              clear he hy hdr hbx
              go_wp2
              go_roundw
              case rel => exact ⟨t + 1, u + 1, by omega, by go_num, rfl, by omega, by omega, HE, HBX.out.alloc _, (by repeat' (first | exact Below.refl _ _ | (with_reducible assumption) | (with_reducible refine Below.alloc ?_ ?_ _) | (with_reducible refine Below.setCell ?_ ?_ _) | (with_reducible refine Below.drew ?_) | (with_reducible refine below_drewN ?_ _) | (refine Below.trans ?_ (Below.mono (by assumption) ?_)) | (with_reducible exact Nat.le_refl _) | (with_reducible assumption) | (exact Below.size (by assumption)) | omega | go_size | (simp at *; omega))), by simp; omega⟩
              case measure => simp [intOf]; omega
            · rw [cq_not hyx] at he
              have HE := hid he
              have hq : (x == y) = false := by simpa using fun e : x = y => hyx e.symm
              have hq2 : decide (x = y) = false := by simpa using fun e : x = y => hyx e.symm
              clear he hy hdr hbx
              go_wp2
              go_roundw
              case rel => exact ⟨t + 1, u, by omega, by go_num, rfl, by omega, by omega, HE, HBX.out.alloc _, (by repeat' (first | exact Below.refl _ _ | (with_reducible assumption) | (with_reducible refine Below.alloc ?_ ?_ _) | (with_reducible refine Below.setCell ?_ ?_ _) | (with_reducible refine Below.drew ?_) | (with_reducible refine below_drewN ?_ _) | (refine Below.trans ?_ (Below.mono (by assumption) ?_)) | (with_reducible exact Nat.le_refl _) | (with_reducible assumption) | (exact Below.size (by assumption)) | omega | go_size | (simp at *; omega))), by simp; omega⟩
              case measure => simp [intOf]; omega
          · have he := he.out
            have hz : cq x (L.drop t) = 0 := by rw [List.drop_eq_nil_of_le (by have := HML.out; omega)]; rfl
            have hu : u = cq x L := by omega
            have HT : Hid ((visL L).take (k + 1) = (visL L).take k ++ [u]) := by show _ = _; rw [HVx.out, hu]
            have ho3 := own_below ho hb3
            have hB3 : Hid (Below w2.heap.size w2 wr) := hb0.trans (hb3.mono hB)
            generalize (visL L).take k = out at *
            clear he hz hu hbx q0 q1 hb3 ho
            go_wp2_with (at_builtin; refine push_int ho3 u _ Try.underlying43 inf_int rfl rfl _ _ rfl rfl rfl (by omega) (by omega) ?_; intro v5 w5 ho5 hb5 hg5)
            go_roundw
            case rel => exact ⟨k + 1, by omega, by go_num, by rw [HT.out]; exact ho5, hB3.out.trans hb5⟩
            case measure => simp [intOf]; omega
      · rw [List.take_of_length_le (by rw [hvl.out]; omega)] at ho
        go_wp2
        go_ret2
        rw [hs.out]
        exact ⟨_, rfl, own_more ho hz2, HB.out.trans (hb0.mono hz2)⟩
  · have hs : Hid (rStateVisits p = ([], loC p)) := by show _ = _; simp [rStateVisits, k]
    have hq : (loC p != 0) = true := by have : loC p ≠ 0 := fun e => k ((loC_iff p).1 e); simpa using this
    have hC := hid hC
    generalize loC p = C at *
    clear k hr
    go_enter Try.func67, Try.ntmps67
    go_wp2_with (first | (go_at_call 128; refine (hC.out).mono ?_; rintro e w1 ⟨rfl, hb1⟩; first | (have hk1 := bchain (by assumption) hb1; obtain ⟨hc1, hf1, hz1, hl1⟩ := bcell hk1) | (obtain ⟨hc1, hf1, hz1, hl1⟩ := bcell hb1)))
    go_ret2
    rw [hs.out]
    exact ⟨_, rfl, World.ownsRow_nil _ _ _ _, (by repeat' (first | exact Below.refl _ _ | (with_reducible assumption) | (with_reducible refine Below.alloc ?_ ?_ _) | (with_reducible refine Below.setCell ?_ ?_ _) | (with_reducible refine Below.drew ?_) | (with_reducible refine below_drewN ?_ _) | (refine Below.trans ?_ (Below.mono (by assumption) ?_)) | (with_reducible exact Nat.le_refl _) | (with_reducible assumption) | (exact Below.size (by assumption)) | omega | go_size | (simp at *; omega)))⟩



end Go.Proofs.Ytlbhfjbbkkkldaa

/- Plain: the parts of a pattern are prime patterns with all its throws and props. -/
namespace Go.Proofs.Ytlbhfjbbkkkldaa
open Go.RowKit
set_option linter.unusedVariables false

theorem col2_first {L : Nat → Int} : ∀ {f k a b : Nat}, col2 L f k = some (a, b) → col2 L (b - k) k = none
  | 0, k, a, b, h => by simp [col2] at h
  | f + 1, k, a, b, h => by
    cases hc : col1 L k k 0 with
    | some i =>
      rw [col2_some1 hc] at h
      injection h with h
      injection h with h1 h2
      subst h2
      rw [Nat.sub_self]; simp [col2]
    | none =>
      rw [col2_none1 hc] at h
      have h1 := col2_first h
      have h2 := (col2_some h).2.1
      rw [show b - k = (b - (k + 1)) + 1 by omega, col2_none1 hc]; exact h1
theorem rep_first {p : List Int} (h : 1 ≤ p.length) {x y : Nat} (hxy : x < y) (hy : y < (repR p).2) : mskF p x ≠ mskF p y := by
  have h0 := repC_all h
  obtain ⟨⟨i, k⟩, e⟩ : ∃ R, repR p = R := ⟨_, rfl⟩
  rw [e] at h0 hy
  have h1 := col2_first h0
  rw [Nat.sub_zero] at h1
  exact col2_none h1 y (Nat.zero_le _) (by simp only at hy; omega) x hxy
theorem repC_none {p : List Int} (h : repC p = none) : repR p = (0, p.length) := by unfold repR; rw [h]; rfl
theorem repC_some {p : List Int} {a b : Nat} (h : repC p = some (a, b)) : repR p = (a, b) ∧ a < b ∧ b < p.length ∧ mskF p a = mskF p b := by
  have h1 := col2_some h
  exact ⟨by unfold repR; rw [h]; rfl, h1.1, by have := h1.2.2.1; omega, h1.2.2.2⟩
theorem rep_none_iff {p : List Int} : repC p = none ↔ (repR p).2 = p.length := by
  cases h : repC p with
  | none => rw [repC_none h]; simp
  | some ab =>
    obtain ⟨a, b⟩ := ab
    obtain ⟨h1, h2, h3, h4⟩ := repC_some h
    rw [h1]
    simp only [reduceCtorEq, false_iff]; omega
theorem mskF_st {p : List Int} {j : Nat} (h : j < p.length) : mskF p j = ((stM p (j : Int) (hgt p) : Nat) : Int) := mskF_at h (mskP_at h)
theorem hgt_hi (p : List Int) : hiT p ≤ (hgt p : Nat) := by rw [hgt_int]; omega
theorem cutF_lo {i k a : Nat} (h : a < k - i) : cutF i k (a : Int) = ((i + a : Nat) : Int) := by
  unfold cutF
  rw [Int.emod_eq_of_lt (by omega) (by omega)]; omega
/-- The first part is prime. -/
theorem cut_prime {p : List Int} (h : okP p = true) : repC (cutP p (repR p).1 (repR p).2) = none := by
  have hn := (thOk_iff (okP_th h)).2.1
  obtain ⟨g1, g2⟩ := repR_bd hn
  have hq := cutR_ok h
  have hF := cut_fold g1 g2 (repR_air h)
  have hfirst := @rep_first p hn
  generalize (repR p).1 = i at *
  generalize (repR p).2 = k at *
  cases hc : repC (cutP p i k) with
  | none => rfl
  | some ab =>
    exfalso
    obtain ⟨a, b⟩ := ab
    obtain ⟨_, hab, hb, he⟩ := repC_some hc
    have hl := cutP_len (i := i) g2
    rw [mskF_st (by omega), mskF_st (by omega)] at he
    have ha := air_eq_of hq (hgt_hi _) (x := (a : Int)) (y := (b : Int)) (by omega)
    refine hfirst (x := i + a) (y := i + b) (by omega) (by omega) ?_
    rw [mskF_st (by omega), mskF_st (by omega)]
    congr 1
    refine stM_congr fun t _ => ?_
    have h1 := hF.air h (okP_th hq) (a : Int) t
    have h2 := hF.air h (okP_th hq) (b : Int) t
    rw [cutF_lo (by omega)] at h1
    rw [cutF_lo (by omega)] at h2
    exact h1.symm.trans ((ha t).trans h2)
theorem cnt_any {p : List Int} (h : okP p = true) (b : Nat) : cnt p (b : Int) 15 = cnt p 0 15 :=
  cnt_all h (fun i => by have := pN_hi h i; have := (hiT_bd (okP_th h)).2; omega) b
theorem prN_15 {p : List Int} (h : okP p = true) : prN p = (cnt p 0 15 : Nat) := prN_cnt h (by have := (hiT_bd (okP_th h)).2; omega)
theorem cut_props {p : List Int} (h : okP p = true) : prN (cutP p (repR p).1 (repR p).2) = prN p := by
  have hn := (thOk_iff (okP_th h)).2.1
  obtain ⟨g1, g2⟩ := repR_bd hn
  have hq := cutR_ok h
  have hF := cut_fold g1 g2 (repR_air h)
  generalize (repR p).1 = i at *
  generalize (repR p).2 = k at *
  rw [prN_15 hq, prN_15 h, hF.cnt h (okP_th hq) 0 15]
  have := cutF_lo (i := i) (k := k) (a := 0) (by omega)
  rw [show (0 : Int) = ((0 : Nat) : Int) from rfl, this, cnt_any h]; rfl
theorem rest_props {p : List Int} (h : okP p = true) (hr : okP (restP p (repR p).1 (repR p).2) = true) : prN (restP p (repR p).1 (repR p).2) = prN p := by
  have hn := (thOk_iff (okP_th h)).2.1
  obtain ⟨g1, g2⟩ := repR_bd hn
  have hrn := (thOk_iff (okP_th hr)).2.1
  have hl := restP_len (p := p) (Nat.le_of_lt g1) g2
  have hF := rest_fold h g1 g2 (by omega) (repR_air h)
  generalize (repR p).1 = i at *
  generalize (repR p).2 = k at *
  rw [prN_15 hr, prN_15 h, hF.cnt h (okP_th hr) 0 15]
  have : ∃ b : Nat, restF p.length i k 0 = (b : Int) := by
    unfold restF
    rw [Int.zero_emod]
    split
    · exact ⟨0, rfl⟩
    · exact ⟨k - i, by omega⟩
  obtain ⟨b, e⟩ := this
  rw [e, cnt_any h]
theorem hi_sub {p q : List Int} (h : okP q = true) (hq : ∀ x ∈ q, x ∈ p) (hp : hiT p ≤ 10) : loB q = true :=
  loB_iff.2 ⟨h, (maxF_bd q 0 10 (by omega) (fun x hx => by have := hiT_mem (hq x hx); omega)).2⟩
/-- A part of a pattern with m props. -/
def PartOk (m : Int) (r : List Int) : Prop := okP r = true ∧ prN r = m ∧ rIsPrime r = true
theorem parts_ok : ∀ (f : Nat) {p : List Int}, loB p = true → ∀ r ∈ partsF f p, PartOk (prN p) r
  | 0, p, _, r, hr => by simp [partsF] at hr
  | f + 1, p, h, r, hr => by
    obtain ⟨h1, h2⟩ := loB_iff.1 h
    have hn := (thOk_iff (okP_th h1)).2.1
    rw [partsF_go (by omega)] at hr
    rcases List.mem_cons.1 hr with rfl | hr
    · have hc := cutR_ok h1
      refine ⟨hc, cut_props h1, ?_⟩
      have hlo := hi_sub hc (fun x hx => cutP_mem hx) h2
      unfold rIsPrime
      rw [hlo, Bool.true_and]
      exact decide_eq_true (rep_none_iff.1 (cut_prime h1))
    · rcases restR_ok h1 with e | hok
      · rw [e, partsF_no _ rfl] at hr; simp at hr
      · have := parts_ok f (hi_sub hok (fun x hx => restP_mem hx) h2) r hr
        rw [rest_props h1 hok] at this; exact this
theorem cut_rest_count {p : List Int} {i k : Nat} (hik : i ≤ k) (v : Int) : (cutP p i k).count v + (restP p i k).count v = p.count v := by
  have h1 : p.take i ++ cutP p i k ++ p.drop k = p := by
    have e : p.take i = (p.take k).take i := by rw [List.take_take, Nat.min_eq_left hik]
    rw [e, cutP, List.take_append_drop, List.take_append_drop]
  have h2 := congrArg (List.count v) h1
  rw [List.count_append, List.count_append] at h2
  rw [restP, List.count_append]; omega
theorem parts_count : ∀ (f : Nat) {p : List Int} (v : Int), okP p = true → p.length ≤ f → (partsF f p).flatten.count v = p.count v
  | 0, p, v, h, hl => by have := (thOk_iff (okP_th h)).2.1; omega
  | f + 1, p, v, h, hl => by
    have hn := (thOk_iff (okP_th h)).2.1
    obtain ⟨g1, g2⟩ := repR_bd hn
    have hc := cut_rest_count (p := p) (Nat.le_of_lt g1) v
    have hrest : (partsF f (restP p (repR p).1 (repR p).2)).flatten.count v = (restP p (repR p).1 (repR p).2).count v := by
      rcases restR_ok h with e | hok
      · rw [e, partsF_no _ rfl]; rfl
      · exact parts_count f v hok (by have := restP_len (p := p) (Nat.le_of_lt g1) g2; omega)
    rw [partsF_go (by omega), List.flatten_cons, List.count_append, hrest]
    exact hc
theorem parts_one {p : List Int} (h : okP p = true) : (partsP p).length = 1 ↔ repC p = none := by
  have hn := (thOk_iff (okP_th h)).2.1
  obtain ⟨n, hl⟩ : ∃ n, p.length = n + 1 := ⟨p.length - 1, by omega⟩
  obtain ⟨g1, g2⟩ := repR_bd hn
  have hrl := restP_len (p := p) (Nat.le_of_lt g1) g2
  unfold partsP
  rw [hl, partsF_go (by omega), List.length_cons]
  cases hc : repC p with
  | none =>
    rw [repC_none hc] at hrl ⊢
    simp only at hrl ⊢
    rw [partsF_no _ (by omega)]; simp
  | some ab =>
    obtain ⟨a, b⟩ := ab
    obtain ⟨h1, h2, h3, h4⟩ := repC_some hc
    rw [h1] at hrl ⊢
    simp only at hrl ⊢
    obtain ⟨m, rfl⟩ : ∃ m, n = m + 1 := ⟨n - 1, by omega⟩
    rw [partsF_go (by omega)]; simp
theorem cq_count (x : Int) : ∀ L : List Int, cq x L = (L.count x : Nat)
  | [] => rfl
  | y :: L => by
    rw [List.count_cons]
    by_cases h : y = x
    · rw [cq_yes h, cq_count x L, if_pos (by simpa using h)]; omega
    · rw [cq_not h, cq_count x L, if_neg (by simpa using h)]; rfl
theorem count_two {L : List Int} {a b : Nat} {x : Int} (ha : L[a]? = some x) (hb : L[b]? = some x) (hab : a < b) : 2 ≤ L.count x := by
  have h1 : x ∈ L.take b := List.mem_of_getElem? (i := a) (by rw [List.getElem?_take, if_pos hab]; exact ha)
  have h2 : x ∈ L.drop b := List.mem_of_getElem? (i := 0) (by rw [List.getElem?_drop, Nat.add_zero]; exact hb)
  have e := congrArg (List.count x) (List.take_append_drop b L)
  rw [List.count_append] at e
  have := List.count_pos_iff.2 h1
  have := List.count_pos_iff.2 h2
  omega
theorem count_le_one : ∀ {L : List Int}, L.Pairwise (· ≠ ·) → ∀ x, L.count x ≤ 1
  | [], _, x => by simp
  | y :: L, h, x => by
    obtain ⟨h1, h2⟩ := List.pairwise_cons.1 h
    have := count_le_one h2 x
    rw [List.count_cons]
    split
    · rename_i e
      have e : y = x := by simpa using e
      have : L.count x = 0 := List.count_eq_zero.2 fun hm => h1 x hm e
      omega
    · omega
theorem visits_ge {L : List Int} : ∀ v ∈ visL L, 1 ≤ v := by
  intro v hv
  unfold visL at hv
  obtain ⟨x, hx, rfl⟩ := List.mem_map.1 hv
  have := List.count_pos_iff.2 hx
  rw [cq_count]; omega
/-- No state is visited twice just if the pattern is prime. -/
theorem visits_one {p : List Int} : (visL (mskP p (hgt p))).all (fun v => v == 1) = decide ((repR p).2 = p.length) := by
  have hml := mskP_len p (hgt p)
  cases hc : repC p with
  | none =>
    rw [decide_eq_true (rep_none_iff.1 hc), List.all_eq_true]
    intro v hv
    unfold visL at hv
    obtain ⟨x, hx, rfl⟩ := List.mem_map.1 hv
    have h1 := List.count_pos_iff.2 hx
    have h2 := count_le_one (L := mskP p (hgt p)) (by
      rw [List.pairwise_iff_getElem]
      intro i j hi hj hij e
      have := col2_none hc j (Nat.zero_le _) (by omega) i hij
      rw [mskF_at (by omega) (List.getElem?_eq_getElem hi), mskF_at (by omega) (List.getElem?_eq_getElem hj)] at this
      exact this e) x
    rw [cq_count, beq_iff_eq]; omega
  | some ab =>
    obtain ⟨a, b⟩ := ab
    obtain ⟨h1, h2, h3, h4⟩ := repC_some hc
    rw [h1, decide_eq_false (by simp only; omega)]
    rw [← Bool.not_eq_true, List.all_eq_true]
    intro hall
    have hb : (mskP p (hgt p))[b]? = some (mskP p (hgt p))[b] := List.getElem?_eq_getElem (by omega)
    have ha : (mskP p (hgt p))[a]? = some (mskP p (hgt p))[a] := List.getElem?_eq_getElem (by omega)
    have e : (mskP p (hgt p))[a] = (mskP p (hgt p))[b] := by rw [mskF_at (by omega) ha, mskF_at (by omega) hb] at h4; exact h4
    rw [e] at ha
    have h5 := count_two ha hb h2
    have h6 := hall (cq (mskP p (hgt p))[b] (mskP p (hgt p))) (List.mem_map.2 ⟨_, List.mem_of_getElem? hb, rfl⟩)
    rw [cq_count, beq_iff_eq] at h6
    omega
end Go.Proofs.Ytlbhfjbbkkkldaa

/- Contracts of l02Bent and l10Draw, far into a source. -/
namespace Go.Proofs.Ytlbhfjbbkkkldaa
open Go.RowKit
set_option linter.unusedVariables false

set_option maxHeartbeats 1000000 in
theorem l02Bent_srcK (g : Nat) (A : Option Addr) (n c K : Nat) (xs : List Int) (w : World) (hK : K ≤ 100000) (h : Src w g A n c xs K) :
    Calls Try.prog 94 #[.pointer (some ⟨g, 0, none⟩)] w fun e w' => ∃ v, e = .returned v ∧ AnyRow w.heap.size w' v ∧ Src w' g A n c xs (K + 600) ∧ w.grownBy w' (some g) := by
  have hgl := h.lt
  have hP := hid (l02Draw_src g A n c K xs 7 w (by omega) (by omega) (by omega) h)
  clear h
  go_enter Try.func94, Try.ntmps94
  go_wp2_with fail
  refine hP.out.mono ?_
  rintro e w1 ⟨v1, rfl, ⟨p, hp, ho1⟩, hs1, hg1⟩
  obtain ⟨_, hp1, hp2⟩ := thOk_iff (okP_th hp)
  obtain ⟨gp, cp, rfl, hgp, hgp1⟩ := own_block ho1 (by omega)
  have hz1 := hg1.size
  have HBD := hid (fun i => getD_bd (okP_th hp) i)
  clear hP hp
  go_wp2_with fail
  refine (pick_src g A n c (K + 500) xs (p.length : Int) w1 (by omega) (by omega) hs1).mono ?_
  rintro e w2 ⟨⟨x, x0, x1, rfl⟩, hs2, hg2⟩
  obtain ⟨a, rfl⟩ := Int.eq_ofNat_of_zero_le x0
  have ha : a < p.length := by omega
  have ho2 := own_ask ho1 hs1 hg2
  have hgg2 := grown_trans hg1 hg2
  have hz2 := hg2.size
  clear x1 hs1 hg1 hg2 ho1
  go_wp2_with fail
  refine (pick_src g A n c (K + 502) xs 14 w2 (by omega) (by omega) hs2).mono ?_
  rintro e w3 ⟨⟨y, y0, y1, rfl⟩, hs3, hg3⟩
  have ho3 := own_ask ho2 hs2 hg3
  have hgg3 := grown_trans hgg2 hg3
  have hz3 := hg3.size
  clear hs2 hgg2 hg3 ho2
  by_cases c0 : y = 0
  · obtain ⟨q, hq⟩ : ∃ q, p.getD a 0 = q := ⟨_, rfl⟩
    have hcell : w3.cell? ⟨gp, a, none⟩ = some (.int .i64 q) := by
      rw [ho3.cellAt a (by omega), ← hq]
      exact ints_at ha
    have hqb := HBD.out a
    rw [hq] at hqb
    obtain ⟨q0, q1⟩ := hqb
    subst c0
    clear hq
    go_wp2_with fail
    have hs3a : Src (w3.alloc (Obj.cells #[.int .i64 (-1), .int .i64 15, .int .i64 16, .int .i64 (q + 1)] 2)) g A n c xs (K + 504) := hs3.below (B := w3.heap.size) ((Below.refl _ _).alloc (Nat.le_refl _) _) (by omega)
    have hg3a : w.grownBy (w3.alloc (Obj.cells #[.int .i64 (-1), .int .i64 15, .int .i64 16, .int .i64 (q + 1)] 2)) (some g) := grown_bl hgg3 (B := w3.heap.size) ((Below.refl _ _).alloc (Nat.le_refl _) _) (by omega)
    have ho3a := ho3.alloc (Obj.cells #[.int .i64 (-1), .int .i64 15, .int .i64 16, .int .i64 (q + 1)] 2)
    refine (among_src g A n c (K + 504) xs w3.heap.size 0 4 4 _ (by omega) (by omega) (by simp) (by omega) (by omega) (four_any w3 (q + 1) _) hs3a).mono ?_
    rintro e w4 ⟨⟨z, rfl⟩, hs4, hg4⟩
    have ho4 := own_ask ho3a hs3a hg4
    have hgg4 := grown_trans hg3a hg4
    have hz4 := hg4.size
    obtain ⟨u4, hc4⟩ : ∃ u, w4.cell? ⟨gp, a, none⟩ = some u := by
      rw [ho4.cellAt a (by omega)]
      exact ⟨_, ints_at ha⟩
    have hf4 := ho4.frozenAt a
    obtain ⟨ho5, hg5⟩ := ho4.stored a (.int .i64 z)
    rw [ints_setD] at ho5
    have hb5 : Below w.heap.size w4 (w4.setCell ⟨gp, a, none⟩ (.int .i64 z)) := (by repeat' (first | exact Below.refl _ _ | (with_reducible assumption) | (with_reducible refine Below.alloc ?_ ?_ _) | (with_reducible refine Below.setCell ?_ ?_ _) | (with_reducible refine Below.drew ?_) | (with_reducible refine below_drewN ?_ _) | (refine Below.trans ?_ (Below.mono (by assumption) ?_)) | (with_reducible exact Nat.le_refl _) | (with_reducible assumption) | (exact Below.size (by assumption)) | omega | go_size | (simp at *; omega)))
    have HO5 := hid ho5
    clear ho3 ho3a hs3a hg3a hg4 hcell ho4 ho5 hg5
    go_wp2
    go_ret
    exact ⟨_, rfl, ⟨p.set a z, by rw [List.length_set]; omega, by rw [List.length_set]; exact HO5.out⟩, (hs4.below hb5 hgl).more (by omega), grown_bl hgg4 hb5 (Nat.le_refl _)⟩
  · by_cases c1 : y = 1
    · subst c1
      go_wp2_with fail
      refine (pick_src g A n c (K + 504) xs 10 w3 (by omega) (by omega) hs3).mono ?_
      rintro e w4 ⟨⟨z, z0, z1, rfl⟩, hs4, hg4⟩
      have ho4 := own_ask ho3 hs3 hg4
      have hgg4 := grown_trans hgg3 hg4
      have hz4 := hg4.size
      obtain ⟨u4, hc4⟩ : ∃ u, w4.cell? ⟨gp, a, none⟩ = some u := by
        rw [ho4.cellAt a (by omega)]
        exact ⟨_, ints_at ha⟩
      have hf4 := ho4.frozenAt a
      obtain ⟨ho5, hg5⟩ := ho4.stored a (.int .i64 z)
      rw [ints_setD] at ho5
      have hb5 : Below w.heap.size w4 (w4.setCell ⟨gp, a, none⟩ (.int .i64 z)) := (by repeat' (first | exact Below.refl _ _ | (with_reducible assumption) | (with_reducible refine Below.alloc ?_ ?_ _) | (with_reducible refine Below.setCell ?_ ?_ _) | (with_reducible refine Below.drew ?_) | (with_reducible refine below_drewN ?_ _) | (refine Below.trans ?_ (Below.mono (by assumption) ?_)) | (with_reducible exact Nat.le_refl _) | (with_reducible assumption) | (exact Below.size (by assumption)) | omega | go_size | (simp at *; omega)))
      have HO5 := hid ho5
      clear ho3 hs3 hgg3 hg4 ho4 ho5 hg5
      go_wp2
      go_ret
      exact ⟨_, rfl, ⟨p.set a z, by rw [List.length_set]; omega, by rw [List.length_set]; exact HO5.out⟩, (hs4.below hb5 hgl).more (by omega), grown_bl hgg4 hb5 (Nat.le_refl _)⟩
    · by_cases c2 : y = 2
      · subst c2
        go_wp2
        go_ret
        exact ⟨_, rfl, ⟨[], by simp, World.ownsRow_lit (base := w.heap.size) w3 #[] (e := 2) (size := 1) 0 (by omega) (by simp [maxLen]) rfl⟩, (hs3.below (B := w3.heap.size) ((Below.refl _ _).alloc (Nat.le_refl _) _) (by omega)).more (by omega), grown_bl hgg3 (B := w3.heap.size) ((Below.refl _ _).alloc (Nat.le_refl _) _) (by omega)⟩
      · by_cases c3 : y = 3
        · subst c3
          go_wp2_with fail
          have hs3a : Src (w3.alloc (Obj.cells #[] 2)) g A n c xs (K + 504) := hs3.below (B := w3.heap.size) ((Below.refl _ _).alloc (Nat.le_refl _) _) (by omega)
          have hg3a : w.grownBy (w3.alloc (Obj.cells #[] 2)) (some g) := grown_bl hgg3 (B := w3.heap.size) ((Below.refl _ _).alloc (Nat.le_refl _) _) (by omega)
          have ho3a : (w3.alloc (Obj.cells #[] 2)).ownsRow w.heap.size 2 1 (.slice (some ⟨w3.heap.size, 0, none⟩) 0 0) ([] : List Int).length (ints []) := World.ownsRow_lit (base := w.heap.size) w3 #[] (e := 2) (size := 1) 0 (by omega) (by simp [maxLen]) rfl
          refine (pick_src g A n c (K + 504) xs 2 _ (by omega) (by omega) hs3a).mono ?_
          rintro e w4 ⟨⟨z, z0, z1, rfl⟩, hs4, hg4⟩
          have ho4 := own_ask ho3a hs3a hg4
          have hgg4 := grown_trans hg3a hg4
          have hz4 := hg4.size
          obtain ⟨N, hN⟩ : ∃ N : Nat, 12 + z = (N : Int) := ⟨(12 + z).toNat, by omega⟩
          have hN2 : N ≤ 13 := by omega
          clear ho3 hs3 hgg3 hg4 ho3a hs3a hg3a z0 z1
          go_wp2
          clear hN
          go_loopw [3] (fun v wr => Hid (∃ out : List Int, out.length ≤ N ∧ Src wr g A n c xs (K + 506) ∧ wr.ownsRow w.heap.size 2 1 v out.length (ints out) ∧ w.grownBy wr (some g))) (fun v _ => match v with | .slice _ m _ => N - m | _ => 0)
          case atStart => exact hid ⟨[], by simp, hs4, ho4, hgg4⟩
          case round =>
            obtain ⟨out, hol, hs, ho, hg⟩ := hrel.out
            obtain ⟨A3, c3, rfl⟩ := own_form ho
            have hz := hg.size
            clear hs4 ho4 hgg4
            by_cases hlt : out.length < N
            · go_wp2_with (
                at_builtin
                refine push_int ho 3 _ Try.underlying43 inf_int rfl rfl _ _ rfl rfl rfl (by omega) (by omega) ?_
                intro v5 w5 ho5 hb5 hg5
                have hln : (out ++ [3]).length = out.length + 1 := List.length_append
                rw [hln] at ho5
                obtain ⟨A5, c5, rfl⟩ := own_form ho5
                have hs5 := hs.below hb5 hgl
                have hgg5 := grown_bl hg hb5 (Nat.le_refl _)
                clear hln)
              go_roundw
              case rel => exact hid ⟨out ++ [3], by rw [List.length_append]; exact hlt, hs5, by rw [List.length_append]; exact ho5, hgg5⟩
              case measure => simp; omega
            · go_wp2
              go_ret
              exact ⟨_, rfl, ⟨out, by omega, ho⟩, hs.more (by omega), hg⟩
        · go_wp2
          go_ret
          exact ⟨_, rfl, ⟨p, by omega, ho3⟩, hs3.more (by omega), hgg3⟩
set_option maxHeartbeats 1000000 in
theorem l10Draw_srcK (g : Nat) (A : Option Addr) (n c K : Nat) (xs : List Int) (w : World) (hK : K ≤ 90000) (h : Src w g A n c xs K) :
    Calls Try.prog 174 #[.pointer (some ⟨g, 0, none⟩)] w fun e w' => ∃ v, e = .returned v ∧ AnyRow w.heap.size w' v ∧ Src w' g A n c xs (K + 900) ∧ w.grownBy w' (some g) := by
  have hgl := h.lt
  have hP := hid (one_src g A n c K xs 12 w (by omega) (by omega) h)
  clear h
  go_enter Try.func174, Try.ntmps174
  go_wp2_with fail
  refine hP.out.mono ?_
  rintro e wa ⟨⟨ba, rfl⟩, hsa, hga⟩
  have hza := hga.size
  clear hP
  cases ba
  case true =>
    go_wp2_with fail
    refine (l02Bent_srcK g A n c (K + 2) xs wa (by omega) hsa).mono ?_
    rintro e wb ⟨vb, rfl, ⟨q, hq, hob⟩, hsb, hgb⟩
    have hgg := grown_trans hga hgb
    go_wp2
    go_ret
    exact ⟨_, rfl, ⟨q, hq, own_more hob hza⟩, hsb.more (by omega), hgg⟩
  case false =>
  go_wp2_with fail
  refine (one_src g A n c (K + 2) xs 3 wa (by omega) (by omega) hsa).mono ?_
  rintro e wb ⟨⟨bb, rfl⟩, hsb, hgb⟩
  have hgg := grown_trans hga hgb
  have hzb := hgb.size
  clear hsa hga hgb
  cases bb
  case true =>
    have hgx : ∀ o, w.grownBy (wb.alloc o) (some g) := fun o => grown_bl hgg (B := wb.heap.size) ((Below.refl _ _).alloc (Nat.le_refl _) _) (by omega)
    have hsx : ∀ o, Src (wb.alloc o) g A n c xs (K + 4) := fun o => hsb.below (B := wb.heap.size) ((Below.refl _ _).alloc (Nat.le_refl _) _) (by omega)
    have HGX := hid hgx
    have HSX := hid hsx
    clear hgx hsx hgg hsb
    go_wp2_with fail
    refine (text_src g A n c (K + 4) xs wb.heap.size 0 14 14 _ (by omega) (by omega) (by simp) (by omega) (by omega) ?_ (HSX.out _)).mono ?_
    · intro i hi
      rw [World.cell?_alloc_at _ _ _ _ rfl]
      match i, hi with
      | 0, _ => refine ⟨_, ?_, rfl⟩; decide
      | 1, _ => refine ⟨_, ?_, rfl⟩; decide
      | 2, _ => refine ⟨_, ?_, rfl⟩; decide
      | 3, _ => refine ⟨_, ?_, rfl⟩; decide
      | 4, _ => refine ⟨_, ?_, rfl⟩; decide
      | 5, _ => refine ⟨_, ?_, rfl⟩; decide
      | 6, _ => refine ⟨_, ?_, rfl⟩; decide
      | 7, _ => refine ⟨_, ?_, rfl⟩; decide
      | 8, _ => refine ⟨_, ?_, rfl⟩; decide
      | 9, _ => refine ⟨_, ?_, rfl⟩; decide
      | 10, _ => refine ⟨_, ?_, rfl⟩; decide
      | 11, _ => refine ⟨_, ?_, rfl⟩; decide
      | 12, _ => refine ⟨_, ?_, rfl⟩; decide
      | 13, _ => refine ⟨_, ?_, rfl⟩; decide
    rintro e w1 ⟨⟨y, hy, rfl⟩, hs1, hg1⟩
    have hgg1 := grown_trans (HGX.out _) hg1
    have hz1 := hgg1.size
    clear HGX HSX hg1
    go_wp2_with fail
    refine (l02Read_any y (by omega) w1).mono ?_
    rintro e w2 ⟨v2, rfl, ho2, hb2⟩
    have hll := rdDig_len y
    generalize rdDig y.data.toList = R at *
    have hs2 := hs1.below hb2 (by omega)
    have hgg2 := grown_bl hgg1 hb2 hz1
    clear hs1 hgg1
    go_wp2
    go_ret
    exact ⟨_, rfl, ⟨R, by omega, own_more ho2 hz1⟩, hs2.more (by omega), hgg2⟩
  case false =>
  go_wp2_with fail
  refine (pick_src g A n c (K + 4) xs 4 wb (by omega) (by omega) hsb).mono ?_
  rintro e w1 ⟨⟨m, m0, m1, rfl⟩, hs1, hgc⟩
  have hg1 := grown_trans hgg hgc
  have hz1 := hg1.size
  clear hgg hsb hgc
  obtain ⟨N, hN⟩ : ∃ N : Nat, 1 + m = (N : Int) := ⟨(1 + m).toNat, by omega⟩
  have hN1 : 1 ≤ N := by omega
  have hN2 : N ≤ 12 := by omega
  have hz1 := hg1.size
  clear m1 m0
  go_wp2
  clear hN
  have ho0 : (w1.alloc (Obj.cells #[] 2)).ownsRow w.heap.size 2 1 (.slice (some ⟨w1.heap.size, 0, none⟩) 0 0) ([] : List Int).length (ints []) := World.ownsRow_lit (base := w.heap.size) w1 #[] (e := 2) (size := 1) 0 hz1 (by simp [maxLen]) rfl
  have hst : Src (w1.alloc (Obj.cells #[] 2)) g A n c xs (K + 6) := hs1.below (B := w1.heap.size) ((Below.refl _ _).alloc (Nat.le_refl _) _) (by omega)
  have hgt : w.grownBy (w1.alloc (Obj.cells #[] 2)) (some g) := grown_bl hg1 (B := w1.heap.size) ((Below.refl _ _).alloc (Nat.le_refl _) _) hz1
  clear hs1 hg1
  go_loopw [4, 5] (fun v i wr => ∃ (k : Nat) (L : List Int) (K2 : Nat), i = .int .i64 k ∧ k ≤ N ∧ K2 ≤ K + 6 + 2 * k ∧ Hid (Perm k L) ∧ L.length ≤ 12 ∧ Src wr g A n c xs K2 ∧ wr.ownsRow w.heap.size 2 1 v L.length (ints L) ∧ w.grownBy wr (some g)) (fun _ i _ => N - (intOf i).toNat)
  case atStart => exact ⟨0, [], K + 6, rfl, by omega, by omega, Perm.nil, by simp, hst, ho0, hgt⟩
  case round =>
    clear ho0 hst hgt
    obtain ⟨k, L, K2, rfl, hk, hK2, hP, hL, hs, ho, hg⟩ := hrel
    have hz := hg.size
    have hlk := hs.lt
    by_cases hlt : k < N
    · have hLk := hid hP.out.1
      go_wp2_with fail
      refine (pick_src g A n c K2 xs ((k : Int) + 1) wr (by omega) (by omega) hs).mono ?_
      rintro e w3 ⟨⟨x, x0, x1, rfl⟩, hs3, hg3⟩
      obtain ⟨a, rfl⟩ := Int.eq_ofNat_of_zero_le x0
      have ha : a ≤ k := by omega
      have HPN : Hid (Perm (k + 1) (swapIn L k a)) := hP.out.swapIn ha
      have ho3 := own_ask ho hs hg3
      have hz3 := hg3.size
      have hg03 := grown_trans hg hg3
      have HLL : Hid ((L ++ [(k : Int)]).length = k + 1) := by show _ = _; rw [List.length_append, hLk.out]; rfl
      obtain ⟨y, hy⟩ : ∃ y, (L ++ [(k : Int)]).getD a 0 = y := ⟨_, rfl⟩
      have HSW : Hid (((L ++ [(k : Int)]).set k y).set a (k : Int) = swapIn L k a) := by show _ = _; rw [← hy]; rfl
      have HY := hid hy
      clear hs ho hg hg3 x1 hP hy
      go_wp2_with (
        at_builtin
        refine push_int ho3 (k : Int) _ Try.underlying43 inf_int rfl rfl _ _ rfl rfl rfl (by omega) (by omega) ?_
        intro v4 w4 ho4 hb4 hg4
        rw [HLL.out] at ho4
        obtain ⟨g4, c4, rfl, hge4, hgl4⟩ := own_block ho4 (by omega)
        have hs4 := hs3.below hb4 hgl
        have hgg4 := grown_bl hg03 hb4 (Nat.le_refl _)
        have hcA : w4.cell? ⟨g4, a, none⟩ = some (.int .i64 y) := by
          rw [ho4.cellAt a (by omega), ← HY.out]
          exact ints_at (by rw [HLL.out]; omega)
        obtain ⟨uK, hcK⟩ : ∃ u, w4.cell? ⟨g4, k, none⟩ = some u := by
          rw [ho4.cellAt k (by omega)]
          exact ⟨_, ints_at (by rw [HLL.out]; omega)⟩
        have hfK := ho4.frozenAt k
        obtain ⟨ho5, hg5⟩ := ho4.stored k (.int .i64 y)
        rw [ints_setD] at ho5
        obtain ⟨uA, hcA5⟩ : ∃ u, (w4.setCell ⟨g4, k, none⟩ (.int .i64 y)).cell? ⟨g4, a, none⟩ = some u := by
          rw [ho5.cellAt a (by omega)]
          exact ⟨_, ints_at (by rw [List.length_set, HLL.out]; omega)⟩
        have hfA5 := ho5.frozenAt a
        obtain ⟨ho6, hg6⟩ := ho5.stored a (.int .i64 (k : Int))
        rw [ints_setD, HSW.out] at ho6
        have HO6 := hid ho6
        clear ho3 ho4 ho5 ho6 hg4 hg5 hg6 hs3 hg03)
      have hb5 : Below w.heap.size w4 ((w4.setCell ⟨g4, k, none⟩ (.int .i64 y)).setCell ⟨g4, a, none⟩ (.int .i64 (k : Int))) := (by repeat' (first | exact Below.refl _ _ | (with_reducible assumption) | (with_reducible refine Below.alloc ?_ ?_ _) | (with_reducible refine Below.setCell ?_ ?_ _) | (with_reducible refine Below.drew ?_) | (with_reducible refine below_drewN ?_ _) | (refine Below.trans ?_ (Below.mono (by assumption) ?_)) | (with_reducible exact Nat.le_refl _) | (with_reducible assumption) | (exact Below.size (by assumption)) | omega | go_size | (simp at *; omega)))
      have hll := swapIn_len (a := a) hLk.out
      go_roundw
      case rel => exact ⟨k + 1, swapIn L k a, K2 + 2, by go_num, by omega, by omega, HPN, by omega, hs4.below hb5 hgl, by rw [hll]; exact HO6.out, grown_bl hgg4 hb5 (Nat.le_refl _)⟩
      case measure => simp [intOf]; omega
    · obtain rfl : k = N := by omega
      have hLk := hid hP.out.1
      rw [hLk.out] at ho
      obtain ⟨g4, c4, rfl, hge4, hgl4⟩ := own_block ho (by omega)
      obtain ⟨wi, rfl⟩ : ∃ wi : World, wi = wr := ⟨_, rfl⟩
      go_wp2
      go_loopw [7, 8] (fun v i wx => Hid (∃ (j : Nat) (out : List Int) (K3 : Nat), i = .int .i64 j ∧ j ≤ k ∧ K3 ≤ K + 40 + 30 * j ∧ Hid (LandsAs k L out) ∧ Hid (out.length = j) ∧ out.length ≤ 12 ∧ Src wx g A n c xs K3 ∧ wx.ownsRow wi.heap.size 2 1 v out.length (ints out) ∧ wx.ownsRow w.heap.size 2 1 (.slice (some ⟨g4, 0, none⟩) k c4) k (ints L) ∧ w.grownBy wx (some g) ∧ wi.heap.size ≤ wx.heap.size)) (fun _ i _ => k - (intOf i).toNat)
      case atStart => exact hid ⟨0, [], K2, rfl, by omega, by omega, LandsAs.nil _ _, rfl, by simp, hs.below (B := wi.heap.size) ((Below.refl _ _).alloc (Nat.le_refl _) _) hlk, World.ownsRow_lit (base := wi.heap.size) wi #[] (e := 2) (size := 1) 0 (Nat.le_refl _) (by simp [maxLen]) rfl, ho.alloc _, grown_bl hg (B := wi.heap.size) ((Below.refl _ _).alloc (Nat.le_refl _) _) hz, by simp⟩
      case round =>
        clear hs ho hg
        obtain ⟨j, out, K3, rfl, hj, hK3, hLA, hol, hol2, hs, ho9, hoL, hg, hz9⟩ := hrel.out
        by_cases hlt : j < k
        · obtain ⟨l0, l1⟩ := hP.out.2.1 j hlt
          obtain ⟨l, hl⟩ : ∃ l, L.getD j 0 = l := ⟨_, rfl⟩
          rw [hl] at l0 l1
          have hcell : wr.cell? ⟨g4, j, none⟩ = some (.int .i64 l) := by
            rw [hoL.cellAt j (by omega), ← hl]
            exact ints_at (by rw [hLk.out]; exact hlt)
          obtain ⟨T0, hT0⟩ : ∃ T0, (l - (j : Int)) % (k : Int) = T0 := ⟨_, rfl⟩
          have hT1 : 0 ≤ T0 := by rw [← hT0]; exact Int.emod_nonneg _ (by omega)
          have hT2 : T0 < (k : Int) := by rw [← hT0]; exact Int.emod_lt_of_pos _ (by omega)
          have HLA := hid (fun (t : Int) (r : Nat) (h0 : 0 ≤ t) (h1 : t ≤ 11) (e : t = T0 + (r : Int) * (k : Int)) => show LandsAs k L (out ++ [t]) from hLA.out.snoc h0 (by omega) (by
            rw [hol.out, hl]
            refine land_mod (n := k) (r : Int) l0 (by omega) ?_
            rw [e, ← hT0]))
          have hMod := hid (l02Mod_any (l - (j : Int)) (k : Int) wr (by omega) (by omega))
          rw [hT0] at hMod
          clear hl hT0 hLA
          by_cases ht : T0 + (k : Int) ≤ 6
          · go_wp2_with (go_at_call 166; refine (hMod.out).mono ?_; rintro e w' ⟨rfl, rfl⟩)
            refine (one_src g A n c K3 xs 2 _ (by omega) (by omega) hs).mono ?_
            rintro e w3 ⟨⟨b, rfl⟩, hs3, hg3⟩
            have ho9' := own_ask ho9 hs hg3
            have hoL' := own_ask hoL hs hg3
            have hgg := grown_trans hg hg3
            have hz3 := hg3.size
            clear hs ho9 hoL hg hg3
            cases b
            · skip
              go_wp2_with (
                at_builtin
                refine push_int ho9' T0 _ Try.underlying43 inf_int rfl rfl _ _ rfl rfl rfl (by omega) (by omega) ?_
                intro v4 w4 ho4 hb4 hg4
                have hs4 := Src.below hs3 hb4 (by omega)
                have hoL4 := own_low hoL' hb4 (fun g h => by have h : g4 = g := (by simpa [Value.ownBlock] using h); omega)
                have hgg4 := grown_bl hgg hb4 (by omega)
                have hz4 := hb4.size)
              go_wp2
              go_roundw
              case rel => exact hid ⟨j + 1, out ++ [T0], K3 + 2, by go_num, by omega, by omega, HLA.out T0 0 hT1 (by omega) (by simp), by show _ = _; rw [List.length_append, hol.out]; rfl, by have := hol.out; rw [List.length_append, List.length_singleton]; omega, hs4, ho4, hoL4, hgg4, by omega⟩
              case measure => simp [intOf]; omega
            · skip
              go_wp2_with (
                at_builtin
                refine push_int ho9' (T0 + (k : Int)) _ Try.underlying43 inf_int rfl rfl _ _ rfl rfl rfl (by omega) (by omega) ?_
                intro v4 w4 ho4 hb4 hg4
                have hs4 := Src.below hs3 hb4 (by omega)
                have hoL4 := own_low hoL' hb4 (fun g h => by have h : g4 = g := (by simpa [Value.ownBlock] using h); omega)
                have hgg4 := grown_bl hgg hb4 (by omega)
                have hz4 := hb4.size)
              go_wp2
              go_roundw
              case rel => exact hid ⟨j + 1, out ++ [T0 + (k : Int)], K3 + 2, by go_num, by omega, by omega, HLA.out (T0 + (k : Int)) 1 (by omega) (by omega) (by omega), by show _ = _; rw [List.length_append, hol.out]; rfl, by have := hol.out; rw [List.length_append, List.length_singleton]; omega, hs4, ho4, hoL4, hgg4, by omega⟩
              case measure => simp [intOf]; omega
          · go_wp2_with (first | (go_at_call 166; refine (hMod.out).mono ?_; rintro e w' ⟨rfl, rfl⟩) | (
              at_builtin
              refine push_int ho9 T0 _ Try.underlying43 inf_int rfl rfl _ _ rfl rfl rfl (by omega) (by omega) ?_
              intro v4 w4 ho4 hb4 hg4
              have hs4 := Src.below hs hb4 (by omega)
              have hoL4 := own_low hoL hb4 (fun g h => by have h : g4 = g := (by simpa [Value.ownBlock] using h); omega)
              have hgg4 := grown_bl hg hb4 (by omega)
              have hz4 := hb4.size))
            go_roundw
            case rel => exact hid ⟨j + 1, out ++ [T0], K3, by go_num, by omega, by omega, HLA.out T0 0 hT1 (by omega) (by simp), by show _ = _; rw [List.length_append, hol.out]; rfl, by have := hol.out; rw [List.length_append, List.length_singleton]; omega, hs4, ho4, hoL4, hgg4, by omega⟩
            case measure => simp [intOf]; omega
        · have hjN : j = k := by omega
          have hok := okP_of_lands hP.out (by omega) (by omega) (by rw [hol.out, hjN]) hLA.out
          have hzz := hg.size
          go_wp2
          go_ret
          exact ⟨_, rfl, OkRow.any ⟨out, hok, own_more ho9 hz⟩, hs.more (by omega), hg⟩
end Go.Proofs.Ytlbhfjbbkkkldaa

/- Contracts of l10Height and l10Two. -/
namespace Go.Proofs.Ytlbhfjbbkkkldaa
open Go.RowKit
set_option linter.unusedVariables false

/-- The highest of any numbers. -/
theorem l02High_all (A : Option Addr) (n c : Nat) (p : List Int) (w : World) (hn : n ≤ 1099511627776) (hr : Rd w w.heap.size 1 A n (ints p)) :
    Calls Try.prog 158 #[.slice A n c] w fun e w' => e = .returned (.int .i64 (hiT p)) ∧ w = w' := by
  have hlen := hr.len
  have hst : Hid (maxF 0 (p.drop 0) = hiT p) := rfl
  generalize hiT p = R at *
  go_enter Try.func158, Try.ntmps158
  go_wp2
  go_loop [3, 4] (fun v i => ∃ (k : Nat) (m : Int), k ≤ n ∧ i = .int .i64 k ∧ v = .int .i64 m ∧ Hid (maxF m (p.drop k) = R)) (fun _ i => n - (intOf i).toNat)
  case atStart => exact ⟨0, 0, Nat.zero_le _, rfl, rfl, hst⟩
  case round =>
    obtain ⟨k, m, hk, rfl, rfl, he⟩ := hrel
    by_cases hlt : k < n
    · obtain ⟨b, off, x, rfl, hb, hx, hd, hc⟩ := hr.at_ hlt
      have he := he.out
      rw [hd, maxF] at he
      have HZ := hid he
      clear he hst hx hd hb hr hlen
      go_wp2_with (go_at_call 157; refine (l00Max_any _ _ _).mono ?_; rintro e w' ⟨rfl, rfl⟩)
      go_round
      case rel => exact ⟨k + 1, max m x, by omega, by go_num, by rfl, HZ⟩
      case measure => simp [intOf]; omega
    · have : k = n := by omega
      subst this
      have he := he.out
      rw [List.drop_eq_nil_of_le (by omega)] at he
      have HZ := hid he
      clear he hst hr hlen
      go_wp2
      go_ret
      exact ⟨ret_int HZ.out, rfl⟩
theorem four_hgt (w : World) (b : Nat) (hb : b = w.heap.size) (x0 x1 x2 x : Int) (t : TypeId) : ∀ i, i < 4 → ∃ y : Int, (w.alloc (Obj.cells #[.int .i64 x0, .int .i64 x1, .int .i64 x2, .int .i64 x] t)).cell? ⟨b, 0 + i, none⟩ = some (.int .i64 y) := by
  intro i hi
  subst hb
  rw [World.cell?_alloc_at _ _ _ _ rfl]
  match i, hi with
  | 0, _ => exact ⟨_, rfl⟩
  | 1, _ => exact ⟨_, rfl⟩
  | 2, _ => exact ⟨_, rfl⟩
  | 3, _ => exact ⟨_, rfl⟩
set_option maxHeartbeats 1000000 in
theorem l10Height_src (g : Nat) (A A2 : Option Addr) (n c K n2 c2 : Nat) (xs p : List Int) (w : World) (hK : K ≤ 500000) (hn2 : n2 ≤ 1099511627776) (hr : ∀ w', w.grownBy w' (some g) → Rd w' w'.heap.size 1 A2 n2 (ints p)) (h : Src w g A n c xs K) :
    Calls Try.prog 175 #[.pointer (some ⟨g, 0, none⟩), .slice A2 n2 c2] w fun e w' => (∃ x : Int, e = .returned (.int .i64 x)) ∧ Src w' g A n c xs (K + 4) ∧ w.grownBy w' (some g) := by
  have hgl := h.lt
  have hP := hid (one_src g A n c K xs 12 w (by omega) (by omega) h)
  have HR := hid hr
  clear h hr
  go_enter Try.func175, Try.ntmps175
  go_wp2_with fail
  refine hP.out.mono ?_
  rintro e w1 ⟨⟨b1, rfl⟩, hs1, hg1⟩
  have hz1 := hg1.size
  have HH := hid (l02High_all A2 n2 c2 p w1 hn2 (HR.out w1 hg1))
  generalize hiT p = M at *
  clear hP HR
  cases b1
  case true =>
    go_wp2_with fail
    refine HH.out.mono ?_
    rintro e w2 ⟨rfl, rfl⟩
    clear HH
    go_wp2_with fail
    refine (among_src g A n c (K + 2) xs w1.heap.size 0 4 4 _ (by omega) (by omega) (by simp) (by omega) (by omega) (four_hgt w1 _ rfl _ _ _ _ _) (hs1.below (B := w1.heap.size) (by repeat' (first | exact Below.refl _ _ | (with_reducible assumption) | (with_reducible refine Below.alloc ?_ ?_ _) | (with_reducible refine Below.setCell ?_ ?_ _) | (with_reducible refine Below.drew ?_) | (with_reducible refine below_drewN ?_ _) | (refine Below.trans ?_ (Below.mono (by assumption) ?_)) | (with_reducible exact Nat.le_refl _) | (with_reducible assumption) | (exact Below.size (by assumption)) | omega | go_size | (simp at *; omega))) (by omega))).mono ?_
    rintro e w3 ⟨⟨y, rfl⟩, hs3, hg3⟩
    have hgg : w.grownBy w3 (some g) := grown_trans (grown_bl hg1 (B := w1.heap.size) (by repeat' (first | exact Below.refl _ _ | (with_reducible assumption) | (with_reducible refine Below.alloc ?_ ?_ _) | (with_reducible refine Below.setCell ?_ ?_ _) | (with_reducible refine Below.drew ?_) | (with_reducible refine below_drewN ?_ _) | (refine Below.trans ?_ (Below.mono (by assumption) ?_)) | (with_reducible exact Nat.le_refl _) | (with_reducible assumption) | (exact Below.size (by assumption)) | omega | go_size | (simp at *; omega))) hz1) hg3
    go_wp2
    go_ret
    exact ⟨⟨_, rfl⟩, hs3, hgg⟩
  case false =>
    go_wp2_with fail
    refine HH.out.mono ?_
    rintro e w2 ⟨rfl, rfl⟩
    clear HH
    go_wp2_with fail
    refine (pick_src g A n c (K + 2) xs 2 w1 (by omega) (by omega) hs1).mono ?_
    rintro e w3 ⟨⟨y, y0, y1, rfl⟩, hs3, hg3⟩
    have hgg := grown_trans hg1 hg3
    clear hs1 hg1 hg3 y0 y1
    go_wp2_with fail
    refine (l00Max_any _ _ w3).mono ?_
    rintro e w4 ⟨rfl, rfl⟩
    go_wp2
    go_ret
    exact ⟨⟨_, rfl⟩, hs3, hgg⟩
theorem AnyRow.ask {B g n c K : Nat} {A : Option Addr} {xs : List Int} {w w' : World} {v : Value} (h : AnyRow B w v) (hs : Src w g A n c xs K) (hg : w.grownBy w' (some g)) : AnyRow B w' v := by
  obtain ⟨p, hp, ho⟩ := h
  exact ⟨p, hp, own_ask ho hs hg⟩
theorem AnyRow.below {B : Nat} {w w' : World} {v : Value} (h : AnyRow B w v) (hb : Below w.heap.size w w') : AnyRow B w' v := by
  obtain ⟨p, hp, ho⟩ := h
  exact ⟨p, hp, own_below ho hb⟩
set_option maxRecDepth 100000 in
set_option maxHeartbeats 4000000 in
theorem l10Two_src (g : Nat) (A : Option Addr) (n c : Nat) (xs : List Int) (w : World) (h : Src w g A n c xs 0) :
    Calls Try.prog 156 #[.pointer (some ⟨g, 0, none⟩)] w fun e w' => (∃ u v x, e = .returned (.tuple #[u, v, .int .i64 x]) ∧ AnyRow w.heap.size w' u ∧ AnyRow w.heap.size w' v) ∧ Src w' g A n c xs 20000 ∧ w.grownBy w' (some g) := by
  have hgl := h.lt
  have hP := hid (l10Draw_srcK g A n c 0 xs w (by omega) h)
  clear h
  go_enter Try.func156, Try.ntmps156
  go_wp2_with fail
  refine hP.out.mono ?_
  rintro e w1 ⟨v1, rfl, hA1, hs1, hg1⟩
  have hz1 := hg1.size
  clear hP
  go_wp2_with fail
  refine (l10Draw_srcK g A n c _ xs w1 (by omega) hs1).mono ?_
  rintro e w2 ⟨v2, rfl, hA2, hs2, hg2⟩
  have hA12 := hA1.ask hs1 hg2
  have hgg2 := grown_trans hg1 hg2
  have hA22 : AnyRow w.heap.size w2 v2 := by
    obtain ⟨p, hp, ho⟩ := hA2
    exact ⟨p, hp, own_more ho hz1⟩
  obtain ⟨p, hp, hop⟩ := hA12
  obtain ⟨Ap, cp, rfl⟩ := own_form hop
  have HOP0 := hid hop
  have HA22 := hid hA22
  have hs2 := hs2.more (show 0 + 900 + 900 ≤ 1800 by omega)
  clear hA1 hs1 hg1 hg2 hA2 hop hA22
  go_wp2
  go_loopw [6, 7] (fun v i wr => Hid (∃ k : Nat, i = .int .i64 k ∧ k ≤ 8 ∧ AnyRow w.heap.size wr v ∧ wr.ownsRow w.heap.size 2 1 (.slice Ap p.length cp) p.length (ints p) ∧ Src wr g A n c xs (1800 + 900 * k) ∧ w.grownBy wr (some g))) (fun _ i _ => 8 - (intOf i).toNat)
  case atStart => exact hid ⟨0, rfl, by omega, HA22.out, HOP0.out, hs2, hgg2⟩
  case round =>
    clear HOP0 HA22 hs2 hgg2
    obtain ⟨k, rfl, hk, ⟨q, hq, hoq⟩, ho, hs, hg⟩ := hrel.out
    clear hrel
    have hz := hg.size
    obtain ⟨Aq, cq, rfl⟩ := own_form hoq
    have HOP := hid ho
    have HOQ := hid hoq
    have HS := hid hs
    have HG := hid hg
    clear ho hoq hs hg
    by_cases hk8 : k < 8
    · have hk8' : (k : Int) < 8 := by omega
      go_wp2_with fail
      refine (l02Ok_any Ap p.length cp p wr (by omega) (Rd.of_own HOP.out)).mono ?_
      rintro e w5 ⟨rfl, hb⟩
      have hzw5 := hb.size
      replace HOP := hid (own_below HOP.out hb)
      replace HOQ := hid (own_below HOQ.out hb)
      replace HS := hid (HS.out.below hb (by omega))
      replace HG := hid (grown_bl HG.out hb (by omega))
      clear hb
      cases hokp : okP p with
      | false =>
        go_wp2_with fail
        refine (l02High_all Aq q.length cq q w5 (by omega) (Rd.of_own HOQ.out)).mono ?_
        rintro e wx ⟨rfl, rfl⟩
        go_wp2_with fail
        refine (l02High_all Ap p.length cp p w5 (by omega) (Rd.of_own HOP.out)).mono ?_
        rintro e wx ⟨rfl, rfl⟩
        by_cases hgt : hiT p < hiT q
        · go_wp2_with fail
          refine (l10Height_src g A Aq n c _ q.length cq xs q w5 (by omega) (by omega) (fun w' hg' => Rd.of_own (own_ask HOQ.out HS.out hg')) HS.out).mono ?_
          rintro e w7 ⟨⟨x, rfl⟩, hs7, hg7⟩
          have o1 := own_ask HOP.out HS.out hg7
          have o2 := own_ask HOQ.out HS.out hg7
          have hgg7 := grown_trans HG.out hg7
          have HO1 := hid o1
          have HO2 := hid o2
          clear HOP HOQ HG HS o1 o2 hg7
          go_wp2
          go_ret3
          exact ⟨⟨_, _, _, rfl, ⟨p, hp, HO1.out⟩, ⟨q, hq, HO2.out⟩⟩, hs7.more (by omega), hgg7⟩
        · go_wp2_with fail
          refine (l10Height_src g A Ap n c _ p.length cp xs p w5 (by omega) (by omega) (fun w' hg' => Rd.of_own (own_ask HOP.out HS.out hg')) HS.out).mono ?_
          rintro e w7 ⟨⟨x, rfl⟩, hs7, hg7⟩
          have o1 := own_ask HOP.out HS.out hg7
          have o2 := own_ask HOQ.out HS.out hg7
          have hgg7 := grown_trans HG.out hg7
          have HO1 := hid o1
          have HO2 := hid o2
          clear HOP HOQ HG HS o1 o2 hg7
          go_wp2
          go_ret3
          exact ⟨⟨_, _, _, rfl, ⟨p, hp, HO1.out⟩, ⟨q, hq, HO2.out⟩⟩, hs7.more (by omega), hgg7⟩
      | true =>
        go_wp2_with fail
        refine (l02Ok_any Aq q.length cq q w5 (by omega) (Rd.of_own HOQ.out)).mono ?_
        rintro e w6 ⟨rfl, hb⟩
        have hzw6 := hb.size
        replace HOP := hid (own_below HOP.out hb)
        replace HOQ := hid (own_below HOQ.out hb)
        replace HS := hid (HS.out.below hb (by omega))
        replace HG := hid (grown_bl HG.out hb (by omega))
        clear hb
        cases hokq : okP q with
        | false =>
          go_wp2_with fail
          refine (l02High_all Aq q.length cq q w6 (by omega) (Rd.of_own HOQ.out)).mono ?_
          rintro e wx ⟨rfl, rfl⟩
          go_wp2_with fail
          refine (l02High_all Ap p.length cp p w6 (by omega) (Rd.of_own HOP.out)).mono ?_
          rintro e wx ⟨rfl, rfl⟩
          by_cases hgt : hiT p < hiT q
          · go_wp2_with fail
            refine (l10Height_src g A Aq n c _ q.length cq xs q w6 (by omega) (by omega) (fun w' hg' => Rd.of_own (own_ask HOQ.out HS.out hg')) HS.out).mono ?_
            rintro e w7 ⟨⟨x, rfl⟩, hs7, hg7⟩
            have o1 := own_ask HOP.out HS.out hg7
            have o2 := own_ask HOQ.out HS.out hg7
            have hgg7 := grown_trans HG.out hg7
            have HO1 := hid o1
            have HO2 := hid o2
            clear HOP HOQ HG HS o1 o2 hg7
            go_wp2
            go_ret3
            exact ⟨⟨_, _, _, rfl, ⟨p, hp, HO1.out⟩, ⟨q, hq, HO2.out⟩⟩, hs7.more (by omega), hgg7⟩
          · go_wp2_with fail
            refine (l10Height_src g A Ap n c _ p.length cp xs p w6 (by omega) (by omega) (fun w' hg' => Rd.of_own (own_ask HOP.out HS.out hg')) HS.out).mono ?_
            rintro e w7 ⟨⟨x, rfl⟩, hs7, hg7⟩
            have o1 := own_ask HOP.out HS.out hg7
            have o2 := own_ask HOQ.out HS.out hg7
            have hgg7 := grown_trans HG.out hg7
            have HO1 := hid o1
            have HO2 := hid o2
            clear HOP HOQ HG HS o1 o2 hg7
            go_wp2
            go_ret3
            exact ⟨⟨_, _, _, rfl, ⟨p, hp, HO1.out⟩, ⟨q, hq, HO2.out⟩⟩, hs7.more (by omega), hgg7⟩
        | true =>
          go_wp2_with fail
          refine (l02Props_any Ap p.length cp p w6 hokp (Rd.of_own HOP.out)).mono ?_
          rintro e wx ⟨rfl, rfl⟩
          go_wp2_with fail
          refine (l02Props_any Aq q.length cq q w6 hokq (Rd.of_own HOQ.out)).mono ?_
          rintro e wx ⟨rfl, rfl⟩
          by_cases hpp : prN p = prN q
          · have hpp2 : (prN p == prN q) = true := by simpa using hpp
            go_wp2_with fail
            refine (l02High_all Aq q.length cq q w6 (by omega) (Rd.of_own HOQ.out)).mono ?_
            rintro e wx ⟨rfl, rfl⟩
            go_wp2_with fail
            refine (l02High_all Ap p.length cp p w6 (by omega) (Rd.of_own HOP.out)).mono ?_
            rintro e wx ⟨rfl, rfl⟩
            by_cases hgt : hiT p < hiT q
            · go_wp2_with fail
              refine (l10Height_src g A Aq n c _ q.length cq xs q w6 (by omega) (by omega) (fun w' hg' => Rd.of_own (own_ask HOQ.out HS.out hg')) HS.out).mono ?_
              rintro e w7 ⟨⟨x, rfl⟩, hs7, hg7⟩
              have o1 := own_ask HOP.out HS.out hg7
              have o2 := own_ask HOQ.out HS.out hg7
              have hgg7 := grown_trans HG.out hg7
              have HO1 := hid o1
              have HO2 := hid o2
              clear HOP HOQ HG HS o1 o2 hg7
              go_wp2
              go_ret3
              exact ⟨⟨_, _, _, rfl, ⟨p, hp, HO1.out⟩, ⟨q, hq, HO2.out⟩⟩, hs7.more (by omega), hgg7⟩
            · go_wp2_with fail
              refine (l10Height_src g A Ap n c _ p.length cp xs p w6 (by omega) (by omega) (fun w' hg' => Rd.of_own (own_ask HOP.out HS.out hg')) HS.out).mono ?_
              rintro e w7 ⟨⟨x, rfl⟩, hs7, hg7⟩
              have o1 := own_ask HOP.out HS.out hg7
              have o2 := own_ask HOQ.out HS.out hg7
              have hgg7 := grown_trans HG.out hg7
              have HO1 := hid o1
              have HO2 := hid o2
              clear HOP HOQ HG HS o1 o2 hg7
              go_wp2
              go_ret3
              exact ⟨⟨_, _, _, rfl, ⟨p, hp, HO1.out⟩, ⟨q, hq, HO2.out⟩⟩, hs7.more (by omega), hgg7⟩
          · have hpp2 : (prN p == prN q) = false := by simpa using hpp
            go_wp2_with fail
            refine (l10Draw_srcK g A n c _ xs w6 (by omega) HS.out).mono ?_
            rintro e w7 ⟨v7, rfl, ⟨q7, hq7, ho7⟩, hs7, hg7⟩
            have o1 := own_ask HOP.out HS.out hg7
            have hgg7 := grown_trans HG.out hg7
            have HO1 := hid o1
            have HO2 := hid (own_more ho7 (show w.heap.size ≤ w6.heap.size by omega))
            obtain ⟨A7, c7, rfl⟩ := own_form ho7
            clear HOP HOQ HG HS o1 hg7 ho7
            go_wp2
            go_roundw
            case rel => exact hid ⟨k + 1, by go_num, by omega, ⟨q7, hq7, HO2.out⟩, HO1.out, hs7.more (by omega), hgg7⟩
            case measure => simp [intOf]; omega
    · have hk8' : ¬ (k : Int) < 8 := by omega
      go_wp2_with fail
      refine (l02High_all Aq q.length cq q wr (by omega) (Rd.of_own HOQ.out)).mono ?_
      rintro e wx ⟨rfl, rfl⟩
      go_wp2_with fail
      refine (l02High_all Ap p.length cp p wr (by omega) (Rd.of_own HOP.out)).mono ?_
      rintro e wx ⟨rfl, rfl⟩
      by_cases hgt : hiT p < hiT q
      · go_wp2_with fail
        refine (l10Height_src g A Aq n c _ q.length cq xs q wr (by omega) (by omega) (fun w' hg' => Rd.of_own (own_ask HOQ.out HS.out hg')) HS.out).mono ?_
        rintro e w7 ⟨⟨x, rfl⟩, hs7, hg7⟩
        have o1 := own_ask HOP.out HS.out hg7
        have o2 := own_ask HOQ.out HS.out hg7
        have hgg7 := grown_trans HG.out hg7
        have HO1 := hid o1
        have HO2 := hid o2
        clear HOP HOQ HG HS o1 o2 hg7
        go_wp2
        go_ret3
        exact ⟨⟨_, _, _, rfl, ⟨p, hp, HO1.out⟩, ⟨q, hq, HO2.out⟩⟩, hs7.more (by omega), hgg7⟩
      · go_wp2_with fail
        refine (l10Height_src g A Ap n c _ p.length cp xs p wr (by omega) (by omega) (fun w' hg' => Rd.of_own (own_ask HOP.out HS.out hg')) HS.out).mono ?_
        rintro e w7 ⟨⟨x, rfl⟩, hs7, hg7⟩
        have o1 := own_ask HOP.out HS.out hg7
        have o2 := own_ask HOQ.out HS.out hg7
        have hgg7 := grown_trans HG.out hg7
        have HO1 := hid o1
        have HO2 := hid o2
        clear HOP HOQ HG HS o1 o2 hg7
        go_wp2
        go_ret3
        exact ⟨⟨_, _, _, rfl, ⟨p, hp, HO1.out⟩, ⟨q, hq, HO2.out⟩⟩, hs7.more (by omega), hgg7⟩
end Go.Proofs.Ytlbhfjbbkkkldaa

/- The walk of the law FnPrimes. -/
namespace Go.Proofs.Ytlbhfjbbkkkldaa
open Go.RowKit
set_option linter.unusedVariables false

/-- Sixteen counters. -/
def CntL (f : Nat → Int) : List Int := (List.range 16).map f
theorem CntL_len (f : Nat → Int) : (CntL f).length = 16 := by simp [CntL]
theorem CntL_at (f : Nat → Int) {v : Nat} (h : v < 16) : (CntL f)[v]? = some (f v) := by
  rw [CntL, List.getElem?_map, List.getElem?_range h]; rfl
theorem CntL_set (f : Nat → Int) (v : Nat) (x : Int) : (CntL f).set v x = CntL (fun u => if u = v then x else f u) := by
  apply List.ext_getElem?
  intro i
  by_cases hi : i < 16
  · rw [CntL_at _ hi]
    by_cases hv : v = i
    · subst hv
      rw [List.getElem?_set_self (by rw [CntL_len]; exact hi), if_pos rfl]
    · rw [List.getElem?_set_ne hv, CntL_at _ hi, if_neg (fun e => hv e.symm)]
  · rw [List.getElem?_eq_none (by rw [List.length_set, CntL_len]; omega), List.getElem?_eq_none (by rw [CntL_len]; omega)]
theorem ints_setS (xs : List Int) (i : Nat) (x : Int) : (ints xs).set i (.int .i64 x) = ints (xs.set i x) := by simp [ints, List.map_set]
theorem CntL_zero : List.replicate 16 (0 : Int) = CntL (fun _ => 0) := by decide
theorem take_count {p : List Int} {k : Nat} {x : Int} (h : p[k]? = some x) (v : Int) : ((p.take (k + 1)).count v : Int) = (p.take k).count v + (if x = v then 1 else 0) := by
  rw [List.take_add_one, h, List.count_append]
  show (((p.take k).count v + [x].count v : Nat) : Int) = _
  rw [List.count_cons, List.count_nil]
  by_cases e : x = v
  · rw [if_pos e, if_pos (by simpa using e)]; omega
  · rw [if_neg e, if_neg (by simpa using e)]; omega
theorem drop_count {p : List Int} {k : Nat} {x : Int} (h : p[k]? = some x) (v : Int) : ((p.drop k).count v : Int) = (p.drop (k + 1)).count v + (if x = v then 1 else 0) := by
  obtain ⟨hk, e⟩ := List.getElem?_eq_some_iff.1 h
  rw [List.drop_eq_getElem_cons hk, e, List.count_cons]
  by_cases e : x = v
  · rw [if_pos e, if_pos (by simpa using e)]; omega
  · rw [if_neg e, if_neg (by simpa using e)]; omega
set_option maxRecDepth 100000 in
theorem fnPrimes_long (w : World) (A : Option Addr) (n c : Nat) (hL : Hid (Calls Try.prog 63 #[.slice A n c, .slice none 0 0] w fun e w' => e = .returned (.bool true) ∧ w = w')) :
    Calls Try.prog 8 #[.slice A n c] w fun e w' => e = .returned (.bool true) ∧ Below w.heap.size w w' := by
  go_enter Try.func8, Try.ntmps8
  go_wp2_with (go_at_call 63; refine (hL.out).mono ?_; rintro e w' ⟨rfl, rfl⟩)
  go_ret
  exact ⟨rfl, (by repeat' (first | exact Below.refl _ _ | (with_reducible assumption) | (with_reducible refine Below.alloc ?_ ?_ _) | (with_reducible refine Below.setCell ?_ ?_ _) | (with_reducible refine Below.drew ?_) | (with_reducible refine below_drewN ?_ _) | (refine Below.trans ?_ (Below.mono (by assumption) ?_)) | (with_reducible exact Nat.le_refl _) | (with_reducible assumption) | (exact Below.size (by assumption)) | omega | go_size | (simp at *; omega)))⟩
set_option maxRecDepth 100000 in
set_option maxHeartbeats 8000000 in
theorem fnPrimes_main (w : World) (A : Option Addr) (n c : Nat) (xs : List Int) (hK : Came .u8 w A n c xs) (hl : n ≤ 3000) (hD : Hid (Calls Try.prog 64 #[.slice A n c] w fun e w' => ∃ v p, e = .returned v ∧ loB p = true ∧ w'.ownsRow w.heap.size 2 1 v p.length (ints p) ∧ Below w.heap.size w w')) :
    Calls Try.prog 8 #[.slice A n c] w fun e w' => e = .returned (.bool true) ∧ Below w.heap.size w w' := by
  have hq : (decide (3000 < n) || decide (3000 < 0)) = false := by simp; omega
  have hL := a2Long_any A none n c 0 0 w (by omega) (by omega)
  rw [hq] at hL
  have hL := hid hL
  clear hK hq
  go_enter Try.func8, Try.ntmps8
  go_wp2_with (go_at_call 63; refine (hL.out).mono ?_; rintro e w' ⟨rfl, rfl⟩)
  refine hD.out.mono ?_
  rintro e w1 ⟨v1, p, rfl, hlo, ho1, hB⟩
  obtain ⟨A1, c1, rfl⟩ := own_form ho1
  obtain ⟨hok, h10⟩ := loB_iff.1 hlo
  obtain ⟨hpb, hn1, hn2⟩ := thOk_iff (okP_th hok)
  obtain ⟨hI0, hI1⟩ := repR_bd hn1
  have C1 := hid (fun (w' : World) (b : Below w1.heap.size w1 w') => specPropsOf_ok A1 p.length c1 p w' hok (Rd.of_own (own_below ho1 b)))
  have C2 := hid (fun (w' : World) (b : Below w1.heap.size w1 w') => show Calls Try.prog 66 #[.slice A1 p.length c1] w' (fun e w'' => ∃ v, e = .returned (.tuple #[v, .int .i64 0]) ∧ Grid w'' w'.heap.size w''.heap.size v (partsP p) ∧ Below w'.heap.size w' w'') from by
    have := PrimeParts_any A1 p.length c1 p w' (by omega) (Rd.of_own (own_below ho1 b))
    unfold rPrimeParts at this
    rw [if_pos hlo] at this
    exact this)
  have C3 := hid (fun (w' : World) (b : Below w1.heap.size w1 w') => show Calls Try.prog 67 #[.slice A1 p.length c1] w' (fun e w'' => ∃ v, e = .returned (.tuple #[v, .int .i64 0]) ∧ w''.ownsRow w'.heap.size 2 1 v (visL (mskP p (hgt p))).length (ints (visL (mskP p (hgt p)))) ∧ Below w'.heap.size w' w'') from by
    have := StateVisits_any A1 p.length c1 p w' (by omega) (Rd.of_own (own_below ho1 b))
    unfold rStateVisits at this
    rw [if_pos hlo] at this
    exact this)
  have C4 := hid (fun (w' : World) (b : Below w1.heap.size w1 w') => show Calls Try.prog 68 #[.slice A1 p.length c1] w' (fun e w'' => e = .returned (.tuple #[.int .i64 (((repR p).1 : Nat) : Int), .int .i64 (((repR p).2 : Nat) : Int), .int .i64 0]) ∧ Below w'.heap.size w' w'') from by
    have := FirstRepeat_any A1 p.length c1 p w' (by omega) (Rd.of_own (own_below ho1 b))
    unfold rFirstRepeat at this
    rw [if_pos hlo] at this
    exact this)
  have C5 := hid (fun (w' : World) (b : Below w1.heap.size w1 w') => show Calls Try.prog 69 #[.slice A1 p.length c1] w' (fun e w'' => e = .returned (.bool (decide ((repR p).2 = p.length))) ∧ Below w'.heap.size w' w'') from by
    have := IsPrime_any A1 p.length c1 p w' (by omega) (Rd.of_own (own_below ho1 b))
    unfold rIsPrime at this
    rw [hlo, Bool.true_and] at this
    exact this)
  have HPO := hid (parts_ok p.length hlo)
  have HPC := hid (fun v : Int => parts_count p.length v hok (Nat.le_refl _))
  have hrw := partsF_row p.length p hn2
  have HRL := hid hrw.2
  have hrw1 : (partsP p).length ≤ p.length := hrw.1
  have hone : (((partsP p).length : Nat) : Int) = 1 ↔ (repR p).2 = p.length := by
    have h1 := (parts_one hok).trans rep_none_iff
    rw [← h1]; omega
  have HV1 := hid (visits_one (p := p))
  have HVG := hid (fun v hv => visits_ge (L := mskP p (hgt p)) v hv)
  have hvl : (visL (mskP p (hgt p))).length = p.length := by rw [visL, List.length_map, mskP_len]
  change Hid (∀ r ∈ partsP p, PartOk (prN p) r) at HPO
  change Hid (∀ v : Int, (partsP p).flatten.count v = p.count v) at HPC
  change Hid (∀ r ∈ partsP p, r.length ≤ 12) at HRL
  have HO1 := hid ho1
  have HPB := hid hpb
  have hXb : Hid (0 ≤ prN p ∧ prN p ≤ 15) := by
    have := prN_bd hok
    have := hiT_bd (okP_th hok)
    exact hid ⟨by omega, by omega⟩
  generalize partsP p = rows at *
  generalize visL (mskP p (hgt p)) = V at *
  generalize (repR p).1 = I at *
  generalize (repR p).2 = K at *
  generalize prN p = X at *
  obtain ⟨Pb, hPb⟩ : ∃ Pb, decide (K = p.length) = Pb := ⟨_, rfl⟩
  rw [hPb] at C5 HV1
  have e1 : (((rows.length : Nat) : Int) == 1) = Pb := by
    rw [← hPb, Bool.eq_iff_iff]; simpa using hone
  have e2 : (((K : Nat) : Int) == ((p.length : Nat) : Int)) = Pb := by
    rw [← hPb, Bool.eq_iff_iff]; simp; omega
  have E1 := hid e1
  have E2 := hid e2
  clear hD hL hok h10 hpb hrw hone ho1 hlo hPb e1 e2
  go_wp2_with fail
  refine (C1.out w1 (Below.refl _ _)).mono ?_
  rintro e w2 ⟨rfl, hb2⟩
  go_wp2_with fail
  refine (C2.out w2 hb2).mono ?_
  rintro e w3 ⟨v3, rfl, hG3, hb3⟩
  have B3 := bchain hb2 hb3
  have hz2 := hb2.size
  have hz3 := hb3.size
  obtain ⟨A3, c3, rfl⟩ := hG3.form
  have HG3 := hid hG3.read
  clear hb2 hb3 hG3
  go_wp2_with fail
  refine (C3.out w3 B3).mono ?_
  rintro e w4 ⟨v4, rfl, ho4, hb4⟩
  have B4 := bchain B3 hb4
  obtain ⟨A4, c4, rfl⟩ := own_form ho4
  have HO4 := hid (Rd.of_own ho4)
  have HG4 := hid ((HG3.out.below hb4 (Nat.le_refl _)).more hb4.size)
  have hz4 := hb4.size
  clear HG3 ho4 hb4 B3
  go_wp2_with fail
  refine (C4.out w4 B4).mono ?_
  rintro e w5 ⟨rfl, hb5⟩
  have B5 := bchain B4 hb5
  have HO5 := hid ((HO4.out.below hb5 (Nat.le_refl _)).more hb5.size)
  have HG5 := hid ((HG4.out.below hb5 (Nat.le_refl _)).more hb5.size)
  have hz5 := hb5.size
  clear HO4 HG4 hb5 B4
  go_wp2_with fail
  refine (C5.out w5 B5).mono ?_
  rintro e w6 ⟨rfl, hb6⟩
  have B6 := bchain B5 hb6
  have HV6 := hid ((HO5.out.below hb6 (Nat.le_refl _)).more hb6.size)
  have HG6 := hid ((HG5.out.below hb6 (Nat.le_refl _)).more hb6.size)
  have HP6 := hid (own_below HO1.out B6)
  have hz6 := hb6.size
  have hzw := hB.size
  have HB6 : Hid (Below w.heap.size w w6) := bchain hB B6
  clear HO5 HG5 hb6 B5 B6 C1 C2 C3 C4 C5 HO1 hB
  have k1 : ((V.length : Nat) : Int) = ((p.length : Nat) : Int) := by omega
  have k2 : ¬ (I : Int) < 0 := by omega
  have k3 : ¬ (K : Int) ≤ (I : Int) := by omega
  have k4 : ¬ (p.length : Int) < (K : Int) := by omega
  have e1 := E1.out
  have e2 := E2.out
  go_wp2
  go_loopw [14, 15] (fun v i wr => Hid (∃ (k : Nat) (B : Bool), k ≤ p.length ∧ i = .int .i64 k ∧ v = .bool B ∧ B = (V.take k).all (fun v => v == 1) ∧ wr = w6)) (fun _ i _ => p.length - (intOf i).toNat)
  case atStart => exact hid ⟨0, true, Nat.zero_le _, rfl, rfl, rfl, rfl⟩
  case round =>
    obtain ⟨k, B, hk, rfl, rfl, hBk, rfl⟩ := hrel.out
    clear hrel
    by_cases hkp : k < p.length
    · have hkp2 : (k : Int) < (p.length : Int) := by omega
      obtain ⟨b, off, x, rfl, hb, hx, hd, hc⟩ := HV6.out.at_ (show k < V.length by omega)
      have hx1 := HVG.out x (List.mem_of_getElem? hx)
      have hx2 : ¬ x < 1 := by omega
      have HST : Hid ((V.take (k + 1)).all (fun v => v == 1) = (B && (x == 1))) := by
        show _ = _
        rw [hBk, List.take_add_one, hx, List.all_append]; simp
      clear hBk hx hd
      cases B with
      | true =>
        go_wp2
        go_roundw
        case rel => exact hid ⟨k + 1, (x == 1), by omega, by go_num, rfl, by rw [HST.out]; rfl, by first | rfl | trivial⟩
        case measure => simp [intOf]; omega
      | false =>
        go_wp2
        go_roundw
        case rel => exact hid ⟨k + 1, false, by omega, by go_num, rfl, by rw [HST.out]; rfl, by first | rfl | trivial⟩
        case measure => simp [intOf]; omega
    · have hkp2 : ¬ (k : Int) < (p.length : Int) := by omega
      have hBP : B = Pb := by
        rw [hBk, List.take_of_length_le (by omega)]; exact HV1.out
      subst hBP
      have zq : (B != B) = false := by simp
      clear hBk HV6 HVG HV1 e1 e2 E1 E2
      go_wp2_with (at_make; refine make_own wr.heap.size Try.underlying43 inf_int rfl rfl _ _ rfl .i64 .i64 16 rfl rfl (by omega) (by omega) (Nat.le_refl _) ?_; intro w7 ho7 hb7 hlt7)
      have hO7 : Hid (w7.ownsRow wr.heap.size 2 1 (.slice (some ⟨wr.heap.size, 0, none⟩) 16 16) 16 (ints (CntL (fun _ => 0)))) := ho7
      obtain ⟨w6, hw6⟩ : ∃ w6, w6 = wr := ⟨_, rfl⟩
      subst hw6
      have HB7 := hid hb7
      clear ho7 hb7
      go_loopw [17] (fun i wr => Hid (∃ (k : Nat) (f : Nat → Int), k ≤ p.length ∧ i = .int .i64 k ∧ wr.ownsRow w6.heap.size 2 1 (.slice (some ⟨w6.heap.size, 0, none⟩) 16 16) 16 (ints (CntL f)) ∧ (∀ v : Nat, f v = ((p.take k).count (v : Int) : Nat)) ∧ Below w6.heap.size w6 wr ∧ w6.heap.size < wr.heap.size)) (fun i _ => p.length - (intOf i).toNat)
      case atStart => exact hid ⟨0, fun _ => 0, Nat.zero_le _, rfl, hO7.out, fun v => by simp, HB7.out, hlt7⟩
      case round =>
        clear hO7 HB7 hlt7
        obtain ⟨k, f, hk, rfl, ho, hf, hb, hlt⟩ := hrel.out
        clear hrel
        obtain ⟨wi, hwi⟩ : ∃ wi, wi = wr := ⟨_, rfl⟩
        subst hwi
        by_cases hkp : k < p.length
        · have hkp2 : (k : Int) < (p.length : Int) := by omega
          obtain ⟨b, off, x, hA, hbb, hx, hd, hc⟩ := ((Rd.of_own HP6.out).below hb (Nat.le_refl _)).at_ hkp
          obtain ⟨x0, x15⟩ := HPB.out x (List.mem_of_getElem? hx)
          obtain ⟨T, rfl⟩ := Int.eq_ofNat_of_zero_le x0
          have hT : T < 16 := by omega
          have hcT := ho.cellAt T (by omega)
          rw [ints, List.getElem?_map, CntL_at f hT] at hcT
          replace hcT : wi.cell? ⟨w6.heap.size, T, none⟩ = some (.int .i64 (f T)) := hcT
          have hfT := ho.frozenAt T
          have hf0 : 0 ≤ f T := by rw [hf T]; omega
          have hf12 : f T ≤ 12 := by
            have h1 := hf T
            have h2 := List.count_le_length (a := (T : Int)) (l := p.take k)
            rw [List.length_take] at h2
            omega
          have HO : Hid ((wi.setCell ⟨w6.heap.size, T, none⟩ (.int .i64 (f T + 1))).ownsRow w6.heap.size 2 1 (.slice (some ⟨w6.heap.size, 0, none⟩) 16 16) 16 (ints (CntL (fun u => if u = T then f T + 1 else f u)))) := by
            have := (ho.stored T (.int .i64 (f T + 1))).1
            rw [ints_setS, CntL_set] at this
            exact this
          have HF : Hid (∀ v : Nat, (fun u => if u = T then f T + 1 else f u) v = ((p.take (k + 1)).count (v : Int) : Nat)) := by
            refine hid fun v => ?_
            have h1 := take_count hx (v : Int)
            have h2 := hf v
            show (if v = T then f T + 1 else f v) = _
            rw [h1, ← h2]
            by_cases e : v = T
            · subst e; rw [if_pos rfl, if_pos rfl]
            · rw [if_neg e, if_neg (by omega)]; omega
          have HBS : Hid (Below w6.heap.size w6 (wi.setCell ⟨w6.heap.size, T, none⟩ (.int .i64 (f T + 1)))) := Below.setCell hb (Nat.le_refl _) _
          have hbw : b < wi.heap.size := by omega
          subst hA
          clear ho hf hb hx hd
          go_wp2
          go_roundw
          case rel => exact hid ⟨k + 1, _, by omega, by go_num, HO.out, HF.out, HBS.out, by simpa using hlt⟩
          case measure => simp [intOf]; omega
        · have hkp2 : ¬ (k : Int) < (p.length : Int) := by omega
          have HF : Hid (∀ v : Nat, f v = ((rows.drop 0).flatten.count (v : Int) : Nat)) := by
            refine hid fun v => ?_
            rw [hf v, List.take_of_length_le (by omega), List.drop_zero, HPC.out]
          have HF12 : Hid (∀ v : Nat, f v ≤ 12) := by
            refine hid fun v => ?_
            have h1 := hf v
            have h2 := List.count_le_length (a := (v : Int)) (l := p.take k)
            rw [List.length_take] at h2
            omega
          have HO := hid ho
          have HBS := hid hb
          clear ho hf hb
          go_wp2
          go_loopw [18] (fun i wr => Hid (∃ (x : Nat) (f : Nat → Int), x ≤ rows.length ∧ i = .int .i64 x ∧ wr.ownsRow w6.heap.size 2 1 (.slice (some ⟨w6.heap.size, 0, none⟩) 16 16) 16 (ints (CntL f)) ∧ (∀ v : Nat, f v = ((rows.drop x).flatten.count (v : Int) : Nat)) ∧ (∀ v : Nat, f v ≤ 12) ∧ Below w6.heap.size w6 wr ∧ w6.heap.size < wr.heap.size)) (fun i _ => rows.length - (intOf i).toNat)
          case atStart => exact hid ⟨0, f, Nat.zero_le _, rfl, HO.out, HF.out, HF12.out, HBS.out, hlt⟩
          case round =>
            clear HO HF HF12 HBS hlt
            obtain ⟨x, f, hx, rfl, ho, hf, hf12, hb, hlt⟩ := hrel.out
            clear hrel
            obtain ⟨wx, hwx⟩ : ∃ wx, wx = wr := ⟨_, rfl⟩
            subst hwx
            by_cases hxr : x < rows.length
            · have hxr2 : (x : Int) < (rows.length : Int) := by omega
              obtain ⟨b, off, row, Ai, ci, hA, hbb, hrow, hdr, hc6, hrd6⟩ := HG6.out.at_ hxr
              have HCW := hid (fun (W : World) (hW : Below w6.heap.size w6 W) => show W.cell? ⟨b, off + x, none⟩ = some (.slice Ai row.length ci) ∧ Rd W w6.heap.size 1 Ai row.length (ints row) from
                ⟨(hW.cell (p := ⟨b, off + x, none⟩) hbb).trans hc6, hrd6.below hW (Nat.le_refl _)⟩)
              obtain ⟨hc, hrd⟩ := HCW.out wx hb
              obtain ⟨rok, rpr, rip⟩ := HPO.out row (List.mem_of_getElem? hrow)
              have rl12 := HRL.out row (List.mem_of_getElem? hrow)
              have rb := (thOk_iff (okP_th rok)).1
              have HC1 := specPropsOf_ok Ai row.length ci row wx rok (hrd.more (by omega))
              rw [rpr] at HC1
              have HC1 := hid HC1
              have HC2 := hid (fun (w' : World) (b' : Below wx.heap.size wx w') => show Calls Try.prog 70 #[.slice Ai row.length ci] w' (fun e w'' => e = .returned (.bool true) ∧ Below w'.heap.size w' w'') from by
                have h := specIsPrime_any Ai row.length ci row w' (by omega) (((hrd.more (show w6.heap.size ≤ wx.heap.size by omega)).below b' (Nat.le_refl _)).more b'.size)
                rw [rip] at h; exact h)
              have HO := hid ho
              have HB := hid hb
              have HRB := hid rb
              have HFF : Hid (∀ v : Nat, f v = ((row.drop 0).count (v : Int) : Nat) + ((rows.drop (x + 1)).flatten.count (v : Int) : Nat)) := by
                refine hid fun v => ?_
                rw [hf v, hdr, List.flatten_cons, List.count_append, List.drop_zero]; omega
              have HF12 := hid hf12
              have hbw : b < w6.heap.size := hbb
              subst hA
              clear ho hb hf hf12 rok rpr rip rb hrow hdr hrd hc6 hrd6
              go_wp2_with fail
              refine HC1.out.mono ?_
              rintro e w8 ⟨rfl, hb8⟩
              have hz8 := hb8.size
              have hc8 : w8.cell? ⟨b, off + x, none⟩ = some (.slice Ai row.length ci) := (hb8.cell (p := ⟨b, off + x, none⟩) (by show b < wx.heap.size; omega)).trans hc
              have zq2 : (X != X) = false := by simp
              clear hc
              go_wp2_with fail
              refine (HC2.out w8 hb8).mono ?_
              rintro e w9 ⟨rfl, hb9⟩
              have hz9 := hb9.size
              have B9 := bchain hb8 hb9
              have HO9 := hid (own_below HO.out B9)
              have HB9 := hid (HB.out.trans (B9.mono (by omega)))
              have hlt9 : w6.heap.size < w9.heap.size := by omega
              clear HC1 HC2 hb8 hb9 B9 HO HB hc8 zq2
              go_wp2
              go_loopw [21] (fun i wr => Hid (∃ (y : Nat) (f : Nat → Int), y ≤ row.length ∧ i = .int .i64 y ∧ wr.ownsRow w6.heap.size 2 1 (.slice (some ⟨w6.heap.size, 0, none⟩) 16 16) 16 (ints (CntL f)) ∧ (∀ v : Nat, f v = ((row.drop y).count (v : Int) : Nat) + ((rows.drop (x + 1)).flatten.count (v : Int) : Nat)) ∧ (∀ v : Nat, f v ≤ 12) ∧ Below w6.heap.size w6 wr ∧ w6.heap.size < wr.heap.size)) (fun i _ => row.length - (intOf i).toNat)
              case atStart => exact hid ⟨0, f, Nat.zero_le _, rfl, HO9.out, HFF.out, HF12.out, HB9.out, hlt9⟩
              case round =>
                clear HO9 HFF HF12 HB9 hlt9
                obtain ⟨y, f, hy, rfl, ho, hf, hf12, hb, hlt⟩ := hrel.out
                clear hrel
                obtain ⟨wy, hwy⟩ : ∃ wy, wy = wr := ⟨_, rfl⟩
                subst hwy
                obtain ⟨hc, hrd⟩ := HCW.out wy hb
                by_cases hyr : y < row.length
                · have hyr2 : (y : Int) < (row.length : Int) := by omega
                  obtain ⟨b2, off2, t, hA2, hbb2, ht, _, hct⟩ := hrd.at_ hyr
                  obtain ⟨t0, t15⟩ := HRB.out t (List.mem_of_getElem? ht)
                  obtain ⟨T, rfl⟩ := Int.eq_ofNat_of_zero_le t0
                  have hT : T < 16 := by omega
                  have hcT := ho.cellAt T (by omega)
                  rw [ints, List.getElem?_map, CntL_at f hT] at hcT
                  replace hcT : wy.cell? ⟨w6.heap.size, T, none⟩ = some (.int .i64 (f T)) := hcT
                  have hfT := ho.frozenAt T
                  have hf0 : 0 ≤ f T := by rw [hf T]; omega
                  have hfm : f T ≤ 12 := hf12 T
                  have HO : Hid ((wy.setCell ⟨w6.heap.size, T, none⟩ (.int .i64 (f T - 1))).ownsRow w6.heap.size 2 1 (.slice (some ⟨w6.heap.size, 0, none⟩) 16 16) 16 (ints (CntL (fun u => if u = T then f T - 1 else f u)))) := by
                    have := (ho.stored T (.int .i64 (f T - 1))).1
                    rw [ints_setS, CntL_set] at this
                    exact this
                  have HF : Hid (∀ v : Nat, (fun u => if u = T then f T - 1 else f u) v = ((row.drop (y + 1)).count (v : Int) : Nat) + ((rows.drop (x + 1)).flatten.count (v : Int) : Nat)) := by
                    refine hid fun v => ?_
                    have h1 := drop_count ht (v : Int)
                    have h2 := hf v
                    show (if v = T then f T - 1 else f v) = _
                    by_cases e : v = T
                    · subst e
                      rw [if_pos rfl] at h1
                      rw [if_pos rfl]; omega
                    · rw [if_neg (by omega)] at h1
                      rw [if_neg e]; omega
                  have HF12 : Hid (∀ v : Nat, (fun u => if u = T then f T - 1 else f u) v ≤ 12) := by
                    refine hid fun v => ?_
                    have := hf12 v
                    show (if v = T then f T - 1 else f v) ≤ 12
                    split <;> omega
                  have HBS : Hid (Below w6.heap.size w6 (wy.setCell ⟨w6.heap.size, T, none⟩ (.int .i64 (f T - 1)))) := Below.setCell hb (Nat.le_refl _) _
                  have hbw2 : b2 < wy.heap.size := by omega
                  subst hA2
                  clear ho hf hf12 hb ht hrd
                  go_wp2
                  go_roundw
                  case rel => exact hid ⟨y + 1, _, by omega, by go_num, HO.out, HF.out, HF12.out, HBS.out, by simpa using hlt⟩
                  case measure => simp [intOf]; omega
                · have hyr2 : ¬ (y : Int) < (row.length : Int) := by omega
                  have HF : Hid (∀ v : Nat, f v = ((rows.drop (x + 1)).flatten.count (v : Int) : Nat)) := by
                    refine hid fun v => ?_
                    rw [hf v, List.drop_eq_nil_of_le (by omega)]; simp
                  have HO := hid ho
                  have HF12 := hid hf12
                  have HBS := hid hb
                  clear ho hf hf12 hb hrd
                  go_wp2
                  go_roundw
                  case rel => exact hid ⟨x + 1, f, by omega, by go_num, HO.out, HF.out, HF12.out, HBS.out, hlt⟩
                  case measure => simp [intOf]; omega
            · have hxr2 : ¬ (x : Int) < (rows.length : Int) := by omega
              have HF0 := hid (fun v : Nat => show f v = 0 from by rw [hf v, List.drop_eq_nil_of_le (by omega)]; simp)
              have HO := hid ho
              have HBE := hid (bchain HB6.out hb)
              clear ho hf hf12 hb
              go_wp2
              go_loopw [22] (fun i wz => Hid (∃ z : Nat, z ≤ 16 ∧ i = .int .i64 z ∧ wz = wx)) (fun i _ => 16 - (intOf i).toNat)
              case atStart => exact hid ⟨0, Nat.zero_le _, rfl, rfl⟩
              case round =>
                obtain ⟨z, hz, rfl, rfl⟩ := hrel.out
                clear hrel
                by_cases hz16 : z < 16
                · have hz17 : (z : Int) < 16 := by omega
                  have hcz := HO.out.cellAt z (by omega)
                  rw [ints, List.getElem?_map, CntL_at f hz16, HF0.out z] at hcz
                  replace hcz : wr.cell? ⟨w6.heap.size, z, none⟩ = some (.int .i64 0) := hcz
                  go_wp2
                  go_roundw
                  case rel => exact hid ⟨z + 1, by omega, by go_num, by first | rfl | trivial⟩
                  case measure => simp [intOf]; omega
                · have hz17 : ¬ (z : Int) < 16 := by omega
                  have hbe := HBE.out
                  go_wp2
                  go_ret
                  exact ⟨rfl, hbe⟩
end Go.Proofs.Ytlbhfjbbkkkldaa
