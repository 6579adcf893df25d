/- Contracts of canonical, CanonicalPattern, AlikePatterns, RepeatPattern, RootPattern, ReversePattern (spec), IsSymmetric, of valid patterns. -/
import Derived.Test.YteaabniemlnjbaaCr
namespace Go.Proofs.Yteaabniemlnjbaa
open Go.RowKit
set_option linter.unusedVariables false

set_option maxHeartbeats 1000000 in
theorem canonical_ok (A : Option Addr) (n c : Nat) (p : List Int) (w : World) (hp : okP p = true) (hr : Rd w w.heap.size 1 A n (ints p)) (hc : n ≤ c) :
    Calls Try.prog 118 #[.slice A n c] w fun e w' => ∃ v, e = .returned v ∧ w'.ownsRow w.heap.size 2 1 v (canP p).length (ints (canP p)) ∧ Below w.heap.size w w' := by
  have hlen := hr.len
  obtain ⟨_, hn1, hn2⟩ := thOk_iff (okP_th hp)
  obtain ⟨_, p3, p4, _⟩ := rtN_spec hn1
  have hRo := hid (root_ok A n c p w hp hr hc)
  have hstF : Hid (cnF p (rtN p - 0) 0 (winP p 0) = canP p) := rfl
  have hwo := hid (fun b => winP_ok hp b)
  have hro := hid (fun b => rotP_win hp b)
  have hwl := hid (fun b => winP_len p b)
  have hyes := hid (fun f (b : Nat) best (h : 0 < rCmp (winP p (b : Int)) best) => cnF_yes (p := p) (f := f) h)
  have hnot := hid (fun f (b : Nat) best (h : ¬ 0 < rCmp (winP p (b : Int)) best) => cnF_not (p := p) (f := f) h)
  have hp4 : rtN p ≤ 12 := by omega
  generalize rtN p = D at *
  clear hr hp hlen hn1 hn2 p4
  go_enter Try.func118, Try.ntmps118
  go_wp2_with fail
  refine hRo.out.mono ?_
  rintro e w1 ⟨v1, rfl, ho1, hb1⟩
  rw [hwl.out] at ho1
  obtain ⟨A1, c1, rfl⟩ := own_form ho1
  have hz1 := hb1.size
  clear hRo
  go_wp2_with (go_at_call 107; refine (period_any _ _ _ _ (by omega)).mono ?_; rintro e w' ⟨rfl, rfl⟩)
  go_loopw [4, 12] (fun v4 v12 wr => Hid (∃ (k : Nat) (best : List Int), k ≤ D ∧ v12 = .int .i64 k ∧ best.length = D ∧ cnF p (D - k) k best = canP p ∧ wr.ownsRow w.heap.size 2 1 v4 best.length (ints best) ∧ wr.ownsRow w.heap.size 2 1 (.slice A1 D c1) D (ints (winP p 0)) ∧ Below w.heap.size w wr)) (fun _ i _ => D - (intOf i).toNat)
  case atStart => exact hid ⟨0, winP p 0, Nat.zero_le _, rfl, hwl.out 0, hstF.out, by rw [hwl.out]; exact ho1, ho1, hb1⟩
  case round =>
    clear ho1 hb1
    obtain ⟨k, best, hk, rfl, hbl, he, hob, hor, hb0⟩ := hrel.out
    clear hrel
    have hz := hb0.size
    obtain ⟨A4, c4, rfl⟩ := own_form hob
    by_cases hlt : k < D
    · have hkk : D - k = (D - (k + 1)) + 1 := by omega
      rw [hkk] at he
      have hRot := rotated_ok A1 D c1 (winP p 0) (k : Int) wr (by omega) (by omega) (hwo.out 0) (Rd.of_own hor)
      rw [hro.out, hwl.out] at hRot
      have hRot := hid hRot
      obtain ⟨W, hW⟩ : ∃ W, winP p (k : Int) = W := ⟨_, rfl⟩
      have hWl : Hid (W.length = D) := by show _ = _; rw [← hW]; exact hwl.out _
      have hY := hyes.out (D - (k + 1)) k best
      have hN := hnot.out (D - (k + 1)) k best
      rw [hW] at hRot hY hN
      have HBL := hid hbl
      have HE := hid he
      have HY := hid hY
      have HN := hid hN
      clear hW hbl he hkk hY hN
      go_wp2_with fail
      refine hRot.out.mono ?_
      rintro e w2 ⟨v2, rfl, ho2, hb2⟩
      obtain ⟨A2, c2, rfl⟩ := own_form ho2
      have hob := own_below hob hb2
      have hor := own_below hor hb2
      have hB2 : Below w.heap.size w w2 := bchain hb0 hb2
      have hz2 := hb2.size
      clear hRot hb2 hb0
      have hCm := ComparePatterns_any A2 A4 D best.length c2 c4 W best w2 (by omega) (by have := HBL.out; omega) (Rd.of_own ho2) (Rd.of_own hob)
      obtain ⟨r, hrr⟩ : ∃ r, rCmp W best = r := ⟨_, rfl⟩
      rw [hrr] at hCm
      have hCm := hid hCm
      by_cases hr0 : 0 < r
      · have HZ : Hid (cnF p (D - (k + 1)) (k + 1) W = canP p) := by
          show _ = _
          rw [← HE.out, HY.out (by rw [hrr]; exact hr0)]
        clear hrr HE HY HN
        go_wp2_with fail
        refine hCm.out.mono ?_
        rintro e w3 ⟨rfl, hb3⟩
        go_wp2
        go_roundw
        case rel => exact hid ⟨k + 1, W, by omega, by go_num, hWl.out, HZ.out, by rw [hWl.out]; exact own_more (own_below ho2 hb3) hz, own_below hor hb3, bchain hB2 hb3⟩
        case measure => simp [intOf]; omega
      · have HZ : Hid (cnF p (D - (k + 1)) (k + 1) best = canP p) := by
          show _ = _
          rw [← HE.out, HN.out (by rw [hrr]; omega)]
        clear hrr HE HY HN
        go_wp2_with fail
        refine hCm.out.mono ?_
        rintro e w3 ⟨rfl, hb3⟩
        go_wp2
        go_roundw
        case rel => exact hid ⟨k + 1, best, by omega, by go_num, HBL.out, HZ.out, own_below hob hb3, own_below hor hb3, bchain hB2 hb3⟩
        case measure => simp [intOf]; omega
    · have hkD : D - k = 0 := by omega
      rw [hkD, cnF] at he
      subst he
      clear hbl
      go_wp2
      go_ret
      exact ⟨_, rfl, hob, hb0⟩
theorem CanonicalPattern_ok (A : Option Addr) (n c : Nat) (p : List Int) (w : World) (hp : okP p = true) (hr : Rd w w.heap.size 1 A n (ints p)) (hc : n ≤ c) :
    Calls Try.prog 68 #[.slice A n c] w fun e w' => ∃ v, e = .returned (.tuple #[v, .int .i64 0]) ∧ w'.ownsRow w.heap.size 2 1 v (canP p).length (ints (canP p)) ∧ Below w.heap.size w w' := by
  have hlen := hr.len
  have hn2 := (thOk_iff (okP_th hp)).2.2
  have hC := ValidPattern_any A n c p w (by omega) hr
  rw [hp] at hC
  have hC := hid hC
  have hR := hid (fun (w1 : World) (b : Below w.heap.size w w1) => canonical_ok A n c p w1 hp ((hr.below b (Nat.le_refl _)).more b.size) hc)
  clear hp hr hn2 hlen
  go_enter Try.func68, Try.ntmps68
  go_wp2_with (first | (go_at_call 64; refine (hC.out).mono ?_; rintro e w1 ⟨rfl, hb1⟩; first | (have hk1 := bchain (by assumption) hb1; obtain ⟨hc1, hf1, hz1, hl1⟩ := bcell hk1) | (obtain ⟨hc1, hf1, hz1, hl1⟩ := bcell hb1)) | (go_at_call 118; refine (hR.out _ hb1).mono ?_; rintro e w2 ⟨v2, rfl, ho2, hb2⟩))
  go_ret2
  exact ⟨_, rfl, own_more ho2 hb1.size, (by repeat' (first | exact Below.refl _ _ | (with_reducible assumption) | (with_reducible refine Below.alloc ?_ ?_ _) | (with_reducible refine Below.setCell ?_ ?_ _) | (with_reducible refine Below.drew ?_) | (with_reducible refine below_drewN ?_ _) | (refine Below.trans ?_ (Below.mono (by assumption) ?_)) | (with_reducible exact Nat.le_refl _) | (with_reducible assumption) | (exact Below.size (by assumption)) | omega | go_size | (simp at *; omega)))⟩
theorem RootPattern_ok (A : Option Addr) (n c : Nat) (p : List Int) (w : World) (hp : okP p = true) (hr : Rd w w.heap.size 1 A n (ints p)) (hc : n ≤ c) :
    Calls Try.prog 72 #[.slice A n c] w fun e w' => ∃ v, e = .returned (.tuple #[v, .int .i64 0]) ∧ w'.ownsRow w.heap.size 2 1 v (winP p 0).length (ints (winP p 0)) ∧ Below w.heap.size w w' := by
  have hlen := hr.len
  have hn2 := (thOk_iff (okP_th hp)).2.2
  have hC := ValidPattern_any A n c p w (by omega) hr
  rw [hp] at hC
  have hC := hid hC
  have hR := hid (fun (w1 : World) (b : Below w.heap.size w w1) => root_ok A n c p w1 hp ((hr.below b (Nat.le_refl _)).more b.size) hc)
  clear hp hr hn2 hlen
  go_enter Try.func72, Try.ntmps72
  go_wp2_with (first | (go_at_call 64; refine (hC.out).mono ?_; rintro e w1 ⟨rfl, hb1⟩; first | (have hk1 := bchain (by assumption) hb1; obtain ⟨hc1, hf1, hz1, hl1⟩ := bcell hk1) | (obtain ⟨hc1, hf1, hz1, hl1⟩ := bcell hb1)) | (go_at_call 122; refine (hR.out _ hb1).mono ?_; rintro e w2 ⟨v2, rfl, ho2, hb2⟩))
  go_ret2
  exact ⟨_, rfl, own_more ho2 hb1.size, (by repeat' (first | exact Below.refl _ _ | (with_reducible assumption) | (with_reducible refine Below.alloc ?_ ?_ _) | (with_reducible refine Below.setCell ?_ ?_ _) | (with_reducible refine Below.drew ?_) | (with_reducible refine below_drewN ?_ _) | (refine Below.trans ?_ (Below.mono (by assumption) ?_)) | (with_reducible exact Nat.le_refl _) | (with_reducible assumption) | (exact Below.size (by assumption)) | omega | go_size | (simp at *; omega)))⟩
theorem AlikePatterns_ok (A A' : Option Addr) (n n' c c' : Nat) (p q : List Int) (w : World) (hp : okP p = true) (hr : Rd w w.heap.size 1 A n (ints p)) (hc : n ≤ c) (hq : okP q = true) (hr' : Rd w w.heap.size 1 A' n' (ints q)) (hc' : n' ≤ c') :
    Calls Try.prog 70 #[.slice A n c, .slice A' n' c'] w fun e w' => e = .returned (.bool (decide (canP p = canP q))) ∧ Below w.heap.size w w' := by
  have hlen := hr.len
  have hlen' := hr'.len
  have hn2 := (thOk_iff (okP_th hp)).2.2
  have hn2' := (thOk_iff (okP_th hq)).2.2
  have hl1 := (thOk_iff (okP_th (canP_ok hp))).2.2
  have hl2 := (thOk_iff (okP_th (canP_ok hq))).2.2
  have hC := ValidPattern_any A n c p w (by omega) hr
  rw [hp] at hC
  have hC := hid hC
  have hC' := hid (fun (w1 : World) (b : Below w.heap.size w w1) => show Calls Try.prog 64 #[.slice A' n' c'] w1 fun e w' => e = .returned (.bool true) ∧ Below w1.heap.size w1 w' from by
    have := ValidPattern_any A' n' c' q w1 (by omega) ((hr'.below b (Nat.le_refl _)).more b.size)
    rwa [hq] at this)
  have hR := hid (fun (w1 : World) (b : Below w.heap.size w w1) => canonical_ok A n c p w1 hp ((hr.below b (Nat.le_refl _)).more b.size) hc)
  have hR' := hid (fun (w1 : World) (b : Below w.heap.size w w1) => canonical_ok A' n' c' q w1 hq ((hr'.below b (Nat.le_refl _)).more b.size) hc')
  generalize canP p = P at *
  generalize canP q = Q at *
  obtain ⟨r, hre⟩ : ∃ r, decide (P = Q) = r := ⟨_, rfl⟩
  rw [hre]
  have HRE := hid hre
  clear hp hr hq hr' hn2 hn2' hlen hlen' hre
  go_enter Try.func70, Try.ntmps70
  go_wp2_with fail
  refine hC.out.mono ?_
  rintro e w1 ⟨rfl, hb1⟩
  go_wp2_with fail
  refine (hC'.out w1 hb1).mono ?_
  rintro e w2 ⟨rfl, hb2⟩
  have hB2 : Below w.heap.size w w2 := bchain hb1 hb2
  go_wp2_with fail
  refine (hR.out w2 hB2).mono ?_
  rintro e w3 ⟨v3, rfl, ho3, hb3⟩
  obtain ⟨A3, c3, rfl⟩ := own_form ho3
  have hB3 : Below w.heap.size w w3 := bchain hB2 hb3
  go_wp2_with fail
  refine (hR'.out w3 hB3).mono ?_
  rintro e w4 ⟨v4, rfl, ho4, hb4⟩
  obtain ⟨A4, c4, rfl⟩ := own_form ho4
  have ho3 := own_below ho3 hb4
  have hB4 : Below w.heap.size w w4 := bchain hB3 hb4
  clear hb1 hb2 hb3 hb4 hB2 hB3 hC hC' hR hR'
  have hS := sameNumbers_any A3 A4 P.length Q.length c3 c4 P Q w4 (by omega) (by omega) (Rd.of_own ho3) (Rd.of_own ho4)
  rw [HRE.out] at hS
  have hS := hid hS
  go_wp2_with fail
  refine hS.out.mono ?_
  rintro e w5 ⟨rfl, hb5⟩
  cases r <;>
  · go_wp2
    go_ret
    exact ⟨rfl, bchain hB4 hb5⟩
theorem IsSymmetric_ok (A : Option Addr) (n c : Nat) (p : List Int) (w : World) (hp : okP p = true) (hr : Rd w w.heap.size 1 A n (ints p)) (hc : n ≤ c) :
    Calls Try.prog 74 #[.slice A n c] w fun e w' => e = .returned (.bool (decide (canP p = canP (revP p)))) ∧ Below w.heap.size w w' := by
  have hlen := hr.len
  have hn2 := (thOk_iff (okP_th hp)).2.2
  have hC := ValidPattern_any A n c p w (by omega) hr
  rw [hp] at hC
  have hC := hid hC
  have hR := hid (fun (w1 : World) (b : Below w.heap.size w w1) => reversed_ok A n c p w1 hp ((hr.below b (Nat.le_refl _)).more b.size))
  have hA := hid (fun (A9 : Option Addr) (c9 : Nat) (w1 : World) (b : Below w.heap.size w w1) (h9 : Rd w1 w1.heap.size 1 A9 (revP p).length (ints (revP p))) (hc9 : (revP p).length ≤ c9) => AlikePatterns_ok A A9 n (revP p).length c c9 p (revP p) w1 hp ((hr.below b (Nat.le_refl _)).more b.size) hc (revP_ok hp) h9 hc9)
  generalize decide (canP p = canP (revP p)) = r at *
  generalize revP p = R at *
  clear hp hr hn2 hlen
  go_enter Try.func74, Try.ntmps74
  go_wp2_with fail
  refine hC.out.mono ?_
  rintro e w1 ⟨rfl, hb1⟩
  go_wp2_with fail
  refine (hR.out w1 hb1).mono ?_
  rintro e w2 ⟨v2, rfl, ho2, hb2⟩
  obtain ⟨A2, c2, rfl, _, hcc⟩ := own_form2 ho2
  have hB2 : Below w.heap.size w w2 := bchain hb1 hb2
  go_wp2_with fail
  refine (hA.out A2 c2 w2 hB2 (Rd.of_own ho2) hcc).mono ?_
  rintro e w3 ⟨rfl, hb3⟩
  cases r <;>
  · go_wp2
    go_ret
    exact ⟨rfl, bchain hB2 hb3⟩
theorem RepeatPattern_ok (A : Option Addr) (n c : Nat) (p : List Int) (t : Nat) (w : World) (hp : okP p = true) (hr : Rd w w.heap.size 1 A n (ints p)) (h1 : 1 ≤ t) (h2 : t * n ≤ 12) :
    Calls Try.prog 71 #[.slice A n c, .int .i64 (t : Int)] w fun e w' => ∃ v, e = .returned (.tuple #[v, .int .i64 0]) ∧ w'.ownsRow w.heap.size 2 1 v (repP p t).length (ints (repP p t)) ∧ Below w.heap.size w w' := by
  have hlen := hr.len
  obtain ⟨_, hn1, hn2⟩ := thOk_iff (okP_th hp)
  rw [hlen] at hn1 hn2
  have ht12 : t ≤ 12 := by
    have := Nat.mul_le_mul_left t hn1
    omega
  obtain ⟨q, hq⟩ : ∃ q, 12 / n = q := ⟨_, rfl⟩
  have htq : t ≤ q := by rw [← hq]; exact (Nat.le_div_iff_mul_le (by omega)).2 h2
  have hqb : q ≤ 12 := by rw [← hq]; exact Nat.div_le_self _ _
  have hq1 : (12 : Int) / (n : Int) = (q : Int) := by rw [← hq]; rfl
  have hq2 : (12 : Int).tdiv (n : Int) = (q : Int) := by rw [Int.tdiv_eq_ediv_of_nonneg (by omega)]; exact hq1
  have hV := ValidPattern_any A n c p w (by omega) hr
  rw [hp] at hV
  have hV := hid hV
  have hB := fun w' => between_any (t : Int) 1 (q : Int) w'
  have hb : betweenB (t : Int) 1 (q : Int) = true := by rw [betweenB_iff]; omega
  rw [hb] at hB
  have hB := hid hB
  have hR := hid (fun (w1 : World) (b : Below w.heap.size w w1) => repeated_ok A n c p t w1 hn1 hn2 ht12 ((hr.below b (Nat.le_refl _)).more b.size))
  clear hp hr hb hq hlen h2
  go_enter Try.func71, Try.ntmps71
  go_wp2_with (first | (go_at_call 64; refine (hV.out).mono ?_; rintro e w1 ⟨rfl, hb1⟩; first | (have hk1 := bchain (by assumption) hb1; obtain ⟨hc1, hf1, hz1, hl1⟩ := bcell hk1) | (obtain ⟨hc1, hf1, hz1, hl1⟩ := bcell hb1)) | (go_at_call 107; refine (period_any _ _ _ _ (by omega)).mono ?_; rintro e w' ⟨rfl, rfl⟩) | (go_at_call 79; refine (hB.out _).mono ?_; rintro e w' ⟨rfl, rfl⟩) | (go_at_call 121; refine (hR.out _ hb1).mono ?_; rintro e w2 ⟨v2, rfl, ho2, hb2⟩))
  go_ret2
  exact ⟨_, rfl, own_more ho2 hb1.size, (by repeat' (first | exact Below.refl _ _ | (with_reducible assumption) | (with_reducible refine Below.alloc ?_ ?_ _) | (with_reducible refine Below.setCell ?_ ?_ _) | (with_reducible refine Below.drew ?_) | (with_reducible refine below_drewN ?_ _) | (refine Below.trans ?_ (Below.mono (by assumption) ?_)) | (with_reducible exact Nat.le_refl _) | (with_reducible assumption) | (exact Below.size (by assumption)) | omega | go_size | (simp at *; omega)))⟩
theorem RepeatPattern_no (A : Option Addr) (n c : Nat) (p : List Int) (t : Nat) (w : World) (hp : okP p = true) (hr : Rd w w.heap.size 1 A n (ints p)) (ht : t ≤ 12) (h2 : ¬ t * n ≤ 12) :
    Calls Try.prog 71 #[.slice A n c, .int .i64 (t : Int)] w fun e w' => e = .returned (.tuple #[.slice none 0 0, .int .i64 2]) ∧ Below w.heap.size w w' := by
  have hlen := hr.len
  obtain ⟨_, hn1, hn2⟩ := thOk_iff (okP_th hp)
  rw [hlen] at hn1 hn2
  obtain ⟨q, hq⟩ : ∃ q, 12 / n = q := ⟨_, rfl⟩
  have htq : ¬ t ≤ q := by
    rw [← hq]
    intro h
    exact h2 ((Nat.le_div_iff_mul_le (by omega)).1 h)
  have hqb : q ≤ 12 := by rw [← hq]; exact Nat.div_le_self _ _
  have hq1 : (12 : Int) / (n : Int) = (q : Int) := by rw [← hq]; rfl
  have hq2 : (12 : Int).tdiv (n : Int) = (q : Int) := by rw [Int.tdiv_eq_ediv_of_nonneg (by omega)]; exact hq1
  have hV := ValidPattern_any A n c p w (by omega) hr
  rw [hp] at hV
  have hV := hid hV
  have hB := fun w' => between_any (t : Int) 1 (q : Int) w'
  have hb : betweenB (t : Int) 1 (q : Int) = false := by
    cases h : betweenB (t : Int) 1 (q : Int) with
    | false => rfl
    | true => rw [betweenB_iff] at h; omega
  rw [hb] at hB
  have hB := hid hB
  clear hp hr hb hq hlen h2
  go_enter Try.func71, Try.ntmps71
  go_wp2_with (first | (go_at_call 64; refine (hV.out).mono ?_; rintro e w1 ⟨rfl, hb1⟩; first | (have hk1 := bchain (by assumption) hb1; obtain ⟨hc1, hf1, hz1, hl1⟩ := bcell hk1) | (obtain ⟨hc1, hf1, hz1, hl1⟩ := bcell hb1)) | (go_at_call 107; refine (period_any _ _ _ _ (by omega)).mono ?_; rintro e w' ⟨rfl, rfl⟩) | (go_at_call 79; refine (hB.out _).mono ?_; rintro e w' ⟨rfl, rfl⟩))
  go_ret2
  exact ⟨rfl, (by repeat' (first | exact Below.refl _ _ | (with_reducible assumption) | (with_reducible refine Below.alloc ?_ ?_ _) | (with_reducible refine Below.setCell ?_ ?_ _) | (with_reducible refine Below.drew ?_) | (with_reducible refine below_drewN ?_ _) | (refine Below.trans ?_ (Below.mono (by assumption) ?_)) | (with_reducible exact Nat.le_refl _) | (with_reducible assumption) | (exact Below.size (by assumption)) | omega | go_size | (simp at *; omega)))⟩
theorem l03Reverse_ok (A : Option Addr) (n c : Nat) (p : List Int) (w : World) (hp : okP p = true) (hr : Rd w w.heap.size 1 A n (ints p)) :
    Calls Try.prog 123 #[.slice A n c] w fun e w' => ∃ v, e = .returned v ∧ w'.ownsRow w.heap.size 2 1 v (revP p).length (ints (revP p)) ∧ Below w.heap.size w w' := by
  have hlen := hr.len
  obtain ⟨_, hn1, hn2⟩ := thOk_iff (okP_th hp)
  rw [hlen] at hn1 hn2
  have hst : Hid (([] : List Int) = (revP p).take 0) := by show _ = _; simp
  have hstep := hid (fun (k : Nat) (b : Int) (h : k < n) (hb : b = (n : Int) - 1 - (k : Int)) => show (revP p).take (k + 1) = (revP p).take k ++ [b - lf p b] from by
    have h1 := mkL_step (n := p.length) (f := fun x => atB p (lf p ((p.length : Int) - 1 - x))) (k := k) (by omega)
    have h3 := lf_at hp b
    have h2 : atB p (lf p ((p.length : Int) - 1 - (k : Int))) = b - lf p b := by
      rw [show (p.length : Int) - 1 - (k : Int) = b by omega]; omega
    rw [show revP p = mkL p.length (fun x => atB p (lf p ((p.length : Int) - 1 - x))) from rfl, h1, h2])
  have hlfb := hid (fun b => lf_bd hp b)
  have hRl : Hid ((revP p).length = n) := by show _ = _; rw [revP_len, hlen]
  have hF := hid (fun (w1 : World) (b : Below w.heap.size w w1) (x : Int) (x1 : -1000000000 ≤ x) (x2 : x ≤ 1000000000) => l02From_any A n c p x w1 x1 x2 hp ((hr.below b (Nat.le_refl _)).more b.size))
  generalize revP p = R at *
  clear hlen hp hr
  go_enter Try.func123, Try.ntmps123
  go_wp2
  go_loopw [3, 4] (fun v i wr => Hid (∃ (k : Nat) (b : Int), k ≤ n ∧ i = .int .i64 b ∧ b = (n : Int) - 1 - (k : Int) ∧ wr.ownsRow w.heap.size 2 1 v (R.take k).length (ints (R.take k)) ∧ Below w.heap.size w wr)) (fun _ i _ => (intOf i + 1).toNat)
  case atStart => exact hid ⟨0, (n : Int) - 1, Nat.zero_le _, rfl, by omega, by rw [← hst.out]; exact World.ownsRow_lit _ _ 0 (Nat.le_refl _) (by simp [maxLen]) rfl, (by repeat' (first | exact Below.refl _ _ | (with_reducible assumption) | (with_reducible refine Below.alloc ?_ ?_ _) | (with_reducible refine Below.setCell ?_ ?_ _) | (with_reducible refine Below.drew ?_) | (with_reducible refine below_drewN ?_ _) | (refine Below.trans ?_ (Below.mono (by assumption) ?_)) | (with_reducible exact Nat.le_refl _) | (with_reducible assumption) | (exact Below.size (by assumption)) | omega | go_size | (simp at *; omega)))⟩
  case round =>
    obtain ⟨k, b, hk, rfl, hb, ho, hb0⟩ := hrel.out
    clear hrel
    have hkl : (R.take k).length ≤ 12 := by rw [List.length_take]; omega
    have hz := hb0.size
    by_cases hlt : 0 ≤ b
    · have hkn : k < n := by omega
      have hs := hid (hstep.out k b hkn hb)
      have hC := hid (hF.out wr hb0 b (by omega) (by omega))
      obtain ⟨y0, y1⟩ := hlfb.out b
      have hbn : b ≤ 11 := by omega
      have HBE := hid hb
      generalize lf p b = y at *
      clear hb
      go_wp2_with (first | (go_at_call 127; refine hC.out.mono ?_; rintro e w1 ⟨rfl, hb1⟩; have ho1 := own_below ho hb1; have hz1 := hb1.size) | (at_builtin; refine push_int ho1 (b - y) _ Try.underlying22 inf_int rfl rfl _ _ rfl rfl rfl (by omega) (by omega) ?_; intro v2 w2 ho2 hb2 hg2))
      go_roundw
      case rel => exact hid ⟨k + 1, b - 1, by omega, by go_num, by have := HBE.out; omega, by rw [hs.out]; exact ho2, (by repeat' (first | exact Below.refl _ _ | (with_reducible assumption) | (with_reducible refine Below.alloc ?_ ?_ _) | (with_reducible refine Below.setCell ?_ ?_ _) | (with_reducible refine Below.drew ?_) | (with_reducible refine below_drewN ?_ _) | (refine Below.trans ?_ (Below.mono (by assumption) ?_)) | (with_reducible exact Nat.le_refl _) | (with_reducible assumption) | (exact Below.size (by assumption)) | omega | go_size | (simp at *; omega)))⟩
      case measure => simp [intOf]; omega
    · have hkn : k = n := by omega
      subst hkn
      rw [List.take_of_length_le (by have := hRl.out; omega)] at ho
      clear hb
      go_wp2
      go_ret
      exact ⟨_, rfl, ho, hb0⟩
theorem specReversePattern_ok (A : Option Addr) (n c : Nat) (p : List Int) (w : World) (hp : okP p = true) (hr : Rd w w.heap.size 1 A n (ints p)) :
    Calls Try.prog 73 #[.slice A n c] w fun e w' => ∃ v, e = .returned (.tuple #[v, .int .i64 0]) ∧ w'.ownsRow w.heap.size 2 1 v (revP p).length (ints (revP p)) ∧ Below w.heap.size w w' := by
  have hn2 := (thOk_iff (okP_th hp)).2.2
  have hlen := hr.len
  have hC := l02Ok_any A n c p w (by omega) hr
  rw [hp] at hC
  have hC := hid hC
  have hR := hid (fun (w1 : World) (b : Below w.heap.size w w1) => l03Reverse_ok A n c p w1 hp ((hr.below b (Nat.le_refl _)).more b.size))
  clear hp hr hn2 hlen
  go_enter Try.func73, Try.ntmps73
  go_wp2_with (first | (go_at_call 75; refine (hC.out).mono ?_; rintro e w1 ⟨rfl, hb1⟩; first | (have hk1 := bchain (by assumption) hb1; obtain ⟨hc1, hf1, hz1, hl1⟩ := bcell hk1) | (obtain ⟨hc1, hf1, hz1, hl1⟩ := bcell hb1)) | (go_at_call 123; refine (hR.out _ hb1).mono ?_; rintro e w2 ⟨v2, rfl, ho2, hb2⟩))
  go_ret2
  exact ⟨_, rfl, own_more ho2 hb1.size, (by repeat' (first | exact Below.refl _ _ | (with_reducible assumption) | (with_reducible refine Below.alloc ?_ ?_ _) | (with_reducible refine Below.setCell ?_ ?_ _) | (with_reducible refine Below.drew ?_) | (with_reducible refine below_drewN ?_ _) | (refine Below.trans ?_ (Below.mono (by assumption) ?_)) | (with_reducible exact Nat.le_refl _) | (with_reducible assumption) | (exact Below.size (by assumption)) | omega | go_size | (simp at *; omega)))⟩
end Go.Proofs.Yteaabniemlnjbaa
