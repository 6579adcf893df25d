/- The contract of root. -/
import Derived.Test.YteaabniemlnjbaaCb
namespace Go.Proofs.Yteaabniemlnjbaa
open Go.RowKit
set_option linter.unusedVariables false

set_option maxRecDepth 100000 in
set_option maxHeartbeats 2000000 in
theorem root_ok (A : Option Addr) (n c : Nat) (p : List Int) (w : World) (hp : okP p = true) (hr : Rd w w.heap.size 1 A n (ints p)) (hc : n ≤ c) :
    Calls Try.prog 122 #[.slice A n c] w fun e w' => ∃ v, e = .returned v ∧ w'.ownsRow w.heap.size 2 1 v (winP p 0).length (ints (winP p 0)) ∧ Below w.heap.size w w' := by
  have hlen := hr.len
  obtain ⟨_, hn1, hn2⟩ := thOk_iff (okP_th hp)
  have hw0 := winP_take hn1
  have hrt : Hid (rtF p n 1 = rtN p) := by show _ = _; rw [rtN, hlen]
  have hpl := hn1
  have hRT := hid (fun (d : Nat) (h1 : 1 ≤ d) (h2 : d ≤ p.length) (h3 : p.length % d = 0) => rep_take hpl h1 h2 h3)
  rw [hlen] at hn1 hn2
  obtain ⟨bb, off, rfl, hbb, hcc⟩ := hr.2 (by omega)
  have HR := hid hr
  have HW := hid hw0
  have HLN := hid hlen
  have hwl := hid (winP_len p 0)
  clear hr hlen hw0 hcc hpl
  go_enter Try.func122, Try.ntmps122
  go_wp2
  go_loopw [3] (fun v3 wr => Hid (∃ d f : Nat, v3 = .int .i64 d ∧ 1 ≤ d ∧ d ≤ n ∧ n < d + f ∧ rtF p f d = rtN p ∧ Below w.heap.size w wr)) (fun i _ => n + 1 - (intOf i).toNat)
  case atStart => exact hid ⟨1, n, rfl, by omega, by omega, by omega, hrt.out, (by repeat' (first | exact Below.refl _ _ | (with_reducible assumption) | (with_reducible refine Below.alloc ?_ ?_ _) | (with_reducible refine Below.setCell ?_ ?_ _) | (with_reducible refine Below.drew ?_) | (with_reducible refine below_drewN ?_ _) | (refine Below.trans ?_ (Below.mono (by assumption) ?_)) | (with_reducible exact Nat.le_refl _) | (with_reducible assumption) | (exact Below.size (by assumption)) | omega | go_size | (simp at *; omega)))⟩
  case round =>
    obtain ⟨d, f, rfl, hd1, hdn, hdf, hrf, hb0⟩ := hrel.out
    clear hrel
    have hz := hb0.size
    have hRr := HR.out.below hb0 (Nat.le_refl _)
    obtain ⟨f', rfl⟩ : ∃ f', f = f' + 1 := ⟨f - 1, by omega⟩
    have hPe := hid (fun (w1 : World) => period_any (some ⟨bb, off, none⟩) n c w1 (by omega))
    have hcut : Rd wr wr.heap.size 1 (some ⟨bb, off, none⟩) d (ints (p.take d)) := by
      have := Rd.cut (hRr.more hz) (Nat.zero_le d) hdn
      simpa using this
    have hne : d ≠ n → rtF p (f' + 1) d = rtN p → isPer p d = false → rtF p f' (d + 1) = rtN p := fun _ h h2 => by rwa [rtF_not h2] at h
    have hlast : d = n → isPer p d = true := fun h => by rw [h, ← HLN.out]; exact isPer_self
    have f1 : (d : Int) ≤ (c : Int) := by omega
    have f2 : d ≤ c := by omega
    have f3 : (d : Int) ≤ (n : Int) := by omega
    have f4 : 1 ≤ (d : Int) := by omega
    by_cases hmod : n % d = 0
    · obtain ⟨q, hq⟩ : ∃ q, n / d = q := ⟨_, rfl⟩
      have hqb : q ≤ 12 := by have := Nat.div_le_self n d; omega
      have hm1 : ((n : Int) % (d : Int) == 0) = true := by
        have : ((n % d : Nat) : Int) = 0 := by rw [hmod]; rfl
        rw [Int.natCast_emod] at this
        simp [this]
      have hq2 : (n : Int) / (d : Int) = (q : Int) := by rw [← hq]; rfl
      have hq3 : (n : Int).tdiv (d : Int) = (q : Int) := by rw [Int.tdiv_eq_ediv_of_nonneg (by omega)]; exact hq2
      have hm3 : (n : Int).tmod (d : Int) = 0 := by
        rw [Int.tmod_eq_emod_of_nonneg (by omega)]
        have : ((n % d : Nat) : Int) = 0 := by rw [hmod]; rfl
        rw [Int.natCast_emod] at this
        exact this
      have hwq : IntKind.i64.wrap (q : Int) = (q : Int) := IntWalk.i64_in _ (by omega)
      have hRep := hid (fun (w1 : World) (b : Below wr.heap.size wr w1) => repeated_ok (some ⟨bb, off, none⟩) d c (p.take d) q w1 hd1 (by omega) hqb ((hcut.below b (Nat.le_refl _)).more b.size))
      have hEq := hRT.out d hd1 (by rw [HLN.out]; exact hdn) (by rw [HLN.out]; exact hmod)
      rw [HLN.out, hq] at hEq
      have hRL : (repP (p.take d) q).length ≤ 144 := by
        rw [repP_len]
        have h1 : (p.take d).length ≤ 12 := by rw [List.length_take]; omega
        have := Nat.mul_le_mul hqb h1
        omega
      have hSam := hid (fun (A9 : Option Addr) (c9 : Nat) (w1 : World) (b : Below w.heap.size w w1) (h9 : Rd w1 w1.heap.size 1 A9 (repP (p.take d) q).length (ints (repP (p.take d) q))) => sameNumbers_any A9 (some ⟨bb, off, none⟩) (repP (p.take d) q).length n c9 c (repP (p.take d) q) p w1 (by omega) (by omega) h9 ((HR.out.below b (Nat.le_refl _)).more b.size))
      rw [hEq] at hSam
      have HCUT := hid hcut
      obtain ⟨RL, hRLe⟩ : ∃ RL, repP (p.take d) q = RL := ⟨_, rfl⟩
      rw [hRLe] at hRep hSam hRL
      have HNE := hid hne
      have HLA := hid hlast
      have HRF := hid hrf
      clear hq hmod hcut hRr hEq hRLe hne hlast hrf
      cases hip : isPer p d with
      | true =>
        have HIP := hid hip
        rw [hip] at hSam
        clear hip
        go_wp2
        go_region_with (first | (go_at_call 107; refine (hPe.out _).mono ?_; rintro e w' ⟨rfl, rfl⟩) | (go_at_call 121; refine (hRep.out _ ?_).mono ?_; (exact (by repeat' (first | exact Below.refl _ _ | (with_reducible assumption) | (with_reducible refine Below.alloc ?_ ?_ _) | (with_reducible refine Below.setCell ?_ ?_ _) | (with_reducible refine Below.drew ?_) | (with_reducible refine below_drewN ?_ _) | (refine Below.trans ?_ (Below.mono (by assumption) ?_)) | (with_reducible exact Nat.le_refl _) | (with_reducible assumption) | (exact Below.size (by assumption)) | omega | go_size | (simp at *; omega)))); rintro e w1 ⟨v1, rfl, ho1, hb1⟩; obtain ⟨A1, c1, rfl⟩ := own_form ho1; have hz1 : w.heap.size ≤ w1.heap.size := Nat.le_trans hz hb1.size) | (go_at_call 120; refine (hSam.out _ _ _ ?_ (Rd.of_own ho1)).mono ?_; (exact (by repeat' (first | exact Below.refl _ _ | (with_reducible assumption) | (with_reducible refine Below.alloc ?_ ?_ _) | (with_reducible refine Below.setCell ?_ ?_ _) | (with_reducible refine Below.drew ?_) | (with_reducible refine below_drewN ?_ _) | (refine Below.trans ?_ (Below.mono (by assumption) ?_)) | (with_reducible exact Nat.le_refl _) | (with_reducible assumption) | (exact Below.size (by assumption)) | omega | go_size | (simp at *; omega)))); rintro e w2 ⟨rfl, hb2⟩))
        have hB2 : Below w.heap.size w w2 := (by repeat' (first | exact Below.refl _ _ | (with_reducible assumption) | (with_reducible refine Below.alloc ?_ ?_ _) | (with_reducible refine Below.setCell ?_ ?_ _) | (with_reducible refine Below.drew ?_) | (with_reducible refine below_drewN ?_ _) | (refine Below.trans ?_ (Below.mono (by assumption) ?_)) | (with_reducible exact Nat.le_refl _) | (with_reducible assumption) | (exact Below.size (by assumption)) | omega | go_size | (simp at *; omega)))
        have hCo := hid (copyNumbers_any (some ⟨bb, off, none⟩) d c (p.take d) w2 (by omega) (fun h => by cases h) (by
          have := Rd.cut ((HR.out.below hB2 (Nat.le_refl _)).more hB2.size) (Nat.zero_le d) hdn
          simpa using this))
        have HFIN : Hid (p.take d = winP p 0) := by
          show _ = _
          have h1 := HRF.out
          rw [rtF_yes HIP.out] at h1
          rw [HW.out, ← h1]
        have HTL : Hid ((p.take d).length = d) := by show _ = _; rw [List.length_take]; have := HLN.out; omega
        clear hRep hSam hPe
        go_simp
        go_wp2_with fail
        refine hCo.out.mono ?_
        rintro e w3 ⟨v3, rfl, ho3, hb3⟩
        go_wp2
        go_ret
        refine ⟨_, rfl, ?_, bchain hB2 hb3⟩
        rw [← HFIN.out, HTL.out]
        exact own_more ho3 hB2.size
      | false =>
        have hnx := HNE.out (by
          intro e
          have := HLA.out e
          rw [hip] at this; cases this) HRF.out hip
        have hdn2 : d + 1 ≤ n := by
          rcases Nat.lt_or_eq_of_le hdn with h | h
          · exact h
          · have := HLA.out h
            rw [hip] at this; cases this
        have HNX := hid hnx
        rw [hip] at hSam
        clear hip hnx
        go_wp2
        go_region_with (first | (go_at_call 107; refine (hPe.out _).mono ?_; rintro e w' ⟨rfl, rfl⟩) | (go_at_call 121; refine (hRep.out _ ?_).mono ?_; (exact (by repeat' (first | exact Below.refl _ _ | (with_reducible assumption) | (with_reducible refine Below.alloc ?_ ?_ _) | (with_reducible refine Below.setCell ?_ ?_ _) | (with_reducible refine Below.drew ?_) | (with_reducible refine below_drewN ?_ _) | (refine Below.trans ?_ (Below.mono (by assumption) ?_)) | (with_reducible exact Nat.le_refl _) | (with_reducible assumption) | (exact Below.size (by assumption)) | omega | go_size | (simp at *; omega)))); rintro e w1 ⟨v1, rfl, ho1, hb1⟩; obtain ⟨A1, c1, rfl⟩ := own_form ho1; have hz1 : w.heap.size ≤ w1.heap.size := Nat.le_trans hz hb1.size) | (go_at_call 120; refine (hSam.out _ _ _ ?_ (Rd.of_own ho1)).mono ?_; (exact (by repeat' (first | exact Below.refl _ _ | (with_reducible assumption) | (with_reducible refine Below.alloc ?_ ?_ _) | (with_reducible refine Below.setCell ?_ ?_ _) | (with_reducible refine Below.drew ?_) | (with_reducible refine below_drewN ?_ _) | (refine Below.trans ?_ (Below.mono (by assumption) ?_)) | (with_reducible exact Nat.le_refl _) | (with_reducible assumption) | (exact Below.size (by assumption)) | omega | go_size | (simp at *; omega)))); rintro e w2 ⟨rfl, hb2⟩))
        have hB2 : Below w.heap.size w w2 := (by repeat' (first | exact Below.refl _ _ | (with_reducible assumption) | (with_reducible refine Below.alloc ?_ ?_ _) | (with_reducible refine Below.setCell ?_ ?_ _) | (with_reducible refine Below.drew ?_) | (with_reducible refine below_drewN ?_ _) | (refine Below.trans ?_ (Below.mono (by assumption) ?_)) | (with_reducible exact Nat.le_refl _) | (with_reducible assumption) | (exact Below.size (by assumption)) | omega | go_size | (simp at *; omega)))
        clear hRep hSam hPe
        go_simp
        go_wp2
        go_roundw
        case rel => exact hid ⟨d + 1, f', by go_num, by omega, hdn2, by omega, HNX.out, hB2⟩
        case measure => simp [intOf]; omega
    · have hip : isPer p d = false := by
        unfold isPer
        rw [HLN.out, decide_eq_false hmod, Bool.false_and]
      have hdn2 : d + 1 ≤ n := by
        rcases Nat.lt_or_eq_of_le hdn with h | h
        · exact h
        · have := hlast h
          rw [hip] at this; cases this
      have HNX := hid (hne (by omega) hrf hip)
      have hm0 : (n : Int).tmod (d : Int) = ((n % d : Nat) : Int) := by rw [Int.tmod_eq_emod_of_nonneg (by omega)]; rfl
      obtain ⟨m, hm⟩ : ∃ m, n % d = m := ⟨_, rfl⟩
      rw [hm] at hm0 hmod
      have hm2 : ((m : Int) == 0) = false := by simp; omega
      have hm3 : (n : Int) % (d : Int) = (m : Int) := by rw [← hm]; rfl
      clear hip hm hmod hne hlast hrf hcut hRr
      go_wp2
      go_quiet (first | ((go_at_call 107; exact quiet_same (hPe.out _))))
      have hB2 : Below w.heap.size w (wr.drewN nq) := below_drewN hb0 _
      go_wp2
      go_roundw
      case rel => exact hid ⟨d + 1, f', by go_num, by omega, hdn2, by omega, HNX.out, hB2⟩
      case measure => simp [intOf]; omega
end Go.Proofs.Yteaabniemlnjbaa
