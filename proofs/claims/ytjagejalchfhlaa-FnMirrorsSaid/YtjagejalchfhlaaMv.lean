/- The walk of the law FnMirrors. -/
import Derived.Test.YtjagejalchfhlaaYh
import Derived.Test.YtjagejalchfhlaaYq
import Derived.Test.YtjagejalchfhlaaF6
import Derived.Test.YtjagejalchfhlaaCo
namespace Go.Proofs.Ytjagejalchfhlaa
open Go.RowKit
set_option linter.unusedVariables false

theorem star_yes {q : List Beat} (h : (rStarSync q).2 = 0) : syOk (q ++ mirP q) = true ∧ (rStarSync q).1 = q ++ mirP q ∧ 1 ≤ q.length ∧ q.length ≤ 3 := by
  unfold rStarSync at h ⊢
  cases h1 : beatsOk q with
  | false => rw [h1] at h; cases h
  | true =>
    rw [h1] at h
    simp only [if_true] at h ⊢
    by_cases h2 : 6 < 2 * q.length
    · rw [if_pos h2] at h; cases h
    · rw [if_neg h2] at h ⊢
      cases h3 : syOk (q ++ mirP q) with
      | false => rw [h3] at h; cases h
      | true => exact ⟨rfl, rfl, (beatsOk_iff.1 h1).2.1, by omega⟩
theorem mir_yes {p : List Beat} (h : (rMirrorSync p).2 = 0) : syOk p = true ∧ (rMirrorSync p).1 = mirP p := by
  unfold rMirrorSync at h ⊢
  cases h1 : syOk p with
  | false => rw [h1] at h; cases h
  | true => exact ⟨rfl, rfl⟩
theorem mir_ok {p : List Beat} (h : syOk p = true) : rMirrorSync p = (mirP p, 0) := by simp [rMirrorSync, h]
theorem props_ok {p : List Beat} (h : syOk p = true) : rSyncProps p = (syPr p, 0) := by simp [rSyncProps, h]
theorem syPr_mir (p : List Beat) : syPr (mirP p) = syPr p := by rw [syPr, syPr, sumB_mir, mirP_len]
theorem same_bts {p : List Beat} : decide (p = p) = true := decide_eq_true rfl
theorem bool_bne (b : Bool) : (b != b) = false := by simp
theorem int_bne (b : Int) : (b != b) = false := by simp
/-- A part of a slice of beats. -/
theorem Rd.cutB {w : World} {B n i k : Nat} {b off : Nat} {p : List Beat} (h : Rd w B 4 (some ⟨b, off, none⟩) n (bts p)) (hik : i ≤ k) (hk : k ≤ n) : Rd w B 4 (some ⟨b, off + i * 4, none⟩) (k - i) (bts ((p.take k).drop i)) := by
  have e : ∀ (q : List Beat) (j : Nat), bts (q.take j) = (bts q).take (j * 4) := by
    intro q
    induction q with
    | nil => intro j; simp [bts]
    | cons x q ih =>
      intro j
      cases j with
      | zero => simp [bts]
      | succ j =>
        have e1 : bts (x :: q) = btC x ++ bts q := rfl
        have e2 : bts ((x :: q).take (j + 1)) = btC x ++ bts (q.take j) := rfl
        have hl : (btC x).length = 4 := rfl
        rw [e1, e2, ih, List.take_append, List.take_of_length_le (l := btC x) (by omega), hl, show (j + 1) * 4 - 4 = j * 4 by omega]
  have e' : ∀ (q : List Beat) (j : Nat), bts (q.drop j) = (bts q).drop (j * 4) := by
    intro q
    induction q with
    | nil => intro j; simp [bts]
    | cons x q ih =>
      intro j
      cases j with
      | zero => simp
      | succ j =>
        have e1 : bts (x :: q) = btC x ++ bts q := rfl
        have hl : (btC x).length = 4 := rfl
        have e3 : (btC x).drop ((j + 1) * 4) = [] := List.drop_eq_nil_of_le (by omega)
        rw [List.drop_succ_cons, ih, e1, List.drop_append, e3, hl, show (j + 1) * 4 - 4 = j * 4 by omega, List.nil_append]
  have := h.cutR hik hk
  rw [← e, ← e'] at this
  exact this
theorem Rd.drewN {w : World} {B sz n : Nat} {A : Option Addr} {us : List Value} (h : Rd w B sz A n us) (k : Nat) : Rd (w.drewN k) B sz A n us := h
theorem same_true {f : Nat} {args : Array Value} {w : World} {p : List Beat} (h : Calls Try.prog f args w fun e w' => e = .returned (.bool (decide (p = p))) ∧ ∃ m, w' = w.drewN m) : Calls Try.prog f args w fun e w' => e = .returned (.bool true) ∧ ∃ m, w' = w.drewN m := by
  rw [same_bts] at h; exact h
theorem quiet_drew {f : Nat} {args : Array Value} {w : World} {x : Nat} {v : Value} (h : Calls Try.prog f args (w.drewN x) fun e w' => e = .returned v ∧ ∃ m, w' = (w.drewN x).drewN m) : Calls Try.prog f args (w.drewN x) fun e w'' => e = .returned v ∧ ∃ n, w'' = w.drewN n :=
  h.mono fun _ _ ⟨he, m, hm⟩ => ⟨he, x + m, by rw [hm, World.drewN_drewN]⟩
set_option maxRecDepth 100000 in
set_option maxHeartbeats 4000000 in
theorem fnMirrors_main (w : World) (A : Option Addr) (n c : Nat) (xs : List Int) (hK : Came .u8 w A n c xs) (hl : n ≤ 4096) :
    Calls Try.prog 3 #[.slice A n c] w fun e w' => e = .returned (.bool true) ∧ Below w.heap.size w w' := by
  have hq : decide (4096 < n) = false := by simp; omega
  have hL := f6big_any A n c w (by omega)
  rw [hq] at hL
  have hL := hid hL
  have hR := hid (fun (w1 : World) (b : Below w.heap.size w w1) => ((Rd.of_came hK).below b (Nat.le_refl _)).more b.size)
  have hX := hid hK.bytes
  have hB : Below w.heap.size w w := Below.refl _ _
  clear hK hq
  go_enter Try.func3, Try.ntmps3
  go_wp2_with (go_at_call 11; refine (hL.out).mono ?_; rintro e w' ⟨rfl, rfl⟩)
  refine (DrawMirrorSync_any A n c xs _ (by omega) hX.out (hR.out _ hB)).mono ?_
  rintro e w1 ⟨v1, rfl, ⟨p, hpl, ho1⟩, hb1⟩
  replace hB := bchain hB hb1
  have z1 := hB.size
  obtain ⟨A1, c1, rfl, hA1⟩ := own_form3 ho1
  have HA1 := hid hA1
  clear hA1 hb1
  obtain ⟨⟨mp, mc⟩, hM⟩ : ∃ r, rMirrorSync p = r := ⟨_, rfl⟩
  have HM := hid hM
  have hmpl : mp.length ≤ 1099511627776 := by
    have : mp = (rMirrorSync p).1 := by rw [hM]
    rw [this]; unfold rMirrorSync; split
    · show (mirP p).length ≤ _; rw [mirP_len]; omega
    · simp
  clear hM
  have hC := MirrorSync_any A1 p.length c1 p w1 (by omega) (Rd.of_own ho1)
  rw [HM.out] at hC
  go_wp2_with fail
  refine (hC).mono ?_
  rintro e w2 ⟨⟨A2, c2, hA2, rfl, ho2⟩, hb2⟩
  replace ho1 := own_below ho1 hb2
  replace hB := bchain hB hb2
  have z2 := hB.size
  clear hC hA2
  simp only at ho2
  clear hb2
  have hC := specMirrorSync_any A1 p.length c1 p w2 (by omega) (Rd.of_own ho1)
  rw [HM.out] at hC
  go_wp2_with fail
  refine (hC).mono ?_
  rintro e w3 ⟨⟨A3, c3, hA3, rfl, ho3⟩, hb3⟩
  replace ho1 := own_below ho1 hb3; replace ho2 := own_below ho2 hb3
  replace hB := bchain hB hb3
  have z3 := hB.size
  clear hC hA3
  simp only at ho3
  clear hb3 z2
  go_wp2_with fail
  refine (DrawStarSync_any A n c xs _ (by omega) hX.out (hR.out _ hB)).mono ?_
  rintro e w4 ⟨v4, rfl, ⟨q, hql, ho4⟩, hb4⟩
  replace ho1 := own_below ho1 hb4; replace ho2 := own_below ho2 hb4; replace ho3 := own_below ho3 hb4
  replace hB := bchain hB hb4
  have z4 := hB.size
  obtain ⟨A4, c4, rfl, hA4⟩ := own_form3 ho4
  have HA4 := hid hA4
  clear hA4 hb4
  obtain ⟨⟨sq, sc⟩, hS⟩ : ∃ r, rStarSync q = r := ⟨_, rfl⟩
  have HS := hid hS
  have hsql : sq.length ≤ 1099511627776 := by
    have : sq = (rStarSync q).1 := by rw [hS]
    rw [this]; unfold rStarSync
    split
    · split
      · simp
      · split
        · show (q ++ mirP q).length ≤ _; rw [List.length_append, mirP_len]; omega
        · simp
    · simp
  clear hS
  have hC := StarSync_any A4 q.length c4 q w4 (by omega) HA4.out (Rd.of_own ho4)
  rw [HS.out] at hC
  go_wp2_with fail
  refine (hC).mono ?_
  rintro e w5 ⟨⟨A5, c5, hA5, rfl, ho5⟩, hb5⟩
  replace ho1 := own_below ho1 hb5; replace ho2 := own_below ho2 hb5; replace ho3 := own_below ho3 hb5; replace ho4 := own_below ho4 hb5
  replace hB := bchain hB hb5
  have z5 := hB.size
  clear hC hA5
  simp only at ho5
  clear hb5 z4
  have hC := specStarSync_any A4 q.length c4 q w5 (by omega) HA4.out (Rd.of_own ho4)
  rw [HS.out] at hC
  go_wp2_with fail
  refine (hC).mono ?_
  rintro e w6 ⟨⟨A6, c6, hA6, rfl, ho6⟩, hb6⟩
  replace ho1 := own_below ho1 hb6; replace ho2 := own_below ho2 hb6; replace ho3 := own_below ho3 hb6; replace ho4 := own_below ho4 hb6; replace ho5 := own_below ho5 hb6
  replace hB := bchain hB hb6
  have z6 := hB.size
  clear hC hA6
  simp only at ho6
  clear hb6 z5
  go_wp2_with fail
  refine (DrawSyncClash_any A n c xs _ (by omega) hX.out (hR.out _ hB)).mono ?_
  rintro e w7 ⟨v7, rfl, ⟨cl, hcll, ho7⟩, hb7⟩
  replace ho1 := own_below ho1 hb7; replace ho2 := own_below ho2 hb7; replace ho3 := own_below ho3 hb7; replace ho4 := own_below ho4 hb7; replace ho5 := own_below ho5 hb7; replace ho6 := own_below ho6 hb7
  replace hB := bchain hB hb7
  have z7 := hB.size
  obtain ⟨A7, c7, rfl, hA7⟩ := own_form3 ho7
  have HA7 := hid hA7
  clear hA7 hb7
  obtain ⟨⟨k1, k2, k3⟩, hcl⟩ : ∃ r, rSyncClash cl = r := ⟨_, rfl⟩
  have HCL := hid hcl
  clear hcl
  have hC := SyncClash_any A7 cl.length c7 cl w7 (by omega) (Rd.of_own ho7)
  rw [HCL.out] at hC
  go_wp2_with fail
  refine (hC).mono ?_
  rintro e w8 ⟨rfl, hb8⟩
  replace ho1 := own_below ho1 hb8; replace ho2 := own_below ho2 hb8; replace ho3 := own_below ho3 hb8; replace ho4 := own_below ho4 hb8; replace ho5 := own_below ho5 hb8; replace ho6 := own_below ho6 hb8; replace ho7 := own_below ho7 hb8
  replace hB := bchain hB hb8
  have z8 := hB.size
  clear hC
  clear hb8 z7
  have hC := specSyncClash_any A7 cl.length c7 cl w8 (by omega) (Rd.of_own ho7)
  rw [HCL.out] at hC
  go_wp2_with fail
  refine (hC).mono ?_
  rintro e w9 ⟨rfl, hb9⟩
  replace ho1 := own_below ho1 hb9; replace ho2 := own_below ho2 hb9; replace ho3 := own_below ho3 hb9; replace ho4 := own_below ho4 hb9; replace ho5 := own_below ho5 hb9; replace ho6 := own_below ho6 hb9; replace ho7 := own_below ho7 hb9
  replace hB := bchain hB hb9
  have z9 := hB.size
  clear hC
  clear hb9 z8
  go_wp2_with fail
  refine (DrawSameSync_any A n c xs _ (by omega) hX.out (hR.out _ hB)).mono ?_
  rintro e w10 ⟨⟨va, vb, rfl, ⟨a, hal, hoa⟩, ⟨b, hbl, hob⟩⟩, hb10⟩
  replace ho1 := own_below ho1 hb10; replace ho2 := own_below ho2 hb10; replace ho3 := own_below ho3 hb10; replace ho4 := own_below ho4 hb10; replace ho5 := own_below ho5 hb10; replace ho6 := own_below ho6 hb10; replace ho7 := own_below ho7 hb10
  replace hB := bchain hB hb10
  have z10 := hB.size
  obtain ⟨Aa, ca, rfl⟩ := own_form hoa
  obtain ⟨Ab, cb, rfl⟩ := own_form hob
  clear hb10 z9
  have q1 := int_bne mc
  have q2 := int_bne sc
  have q3 := int_bne k3
  have q4 := int_bne k1
  have q5 := int_bne k2
  have hC := specSameSync_any A2 A3 mp.length mp.length c2 c3 mp mp w10 (by omega) (by omega) (Rd.of_own ho2) (Rd.of_own ho3)
  rw [same_bts] at hC
  go_wp2_with fail
  refine (hC).mono ?_
  rintro e w11 ⟨rfl, hb11⟩
  replace ho1 := own_below ho1 hb11; replace ho2 := own_below ho2 hb11; replace ho3 := own_below ho3 hb11; replace ho4 := own_below ho4 hb11; replace ho5 := own_below ho5 hb11; replace ho6 := own_below ho6 hb11; replace ho7 := own_below ho7 hb11; replace hoa := own_below hoa hb11; replace hob := own_below hob hb11
  replace hB := bchain hB hb11
  have z11 := hB.size
  clear hC
  clear hb11 z10
  clear ho3
  have hC := specSameSync_any A5 A6 sq.length sq.length c5 c6 sq sq w11 (by omega) (by omega) (Rd.of_own ho5) (Rd.of_own ho6)
  rw [same_bts] at hC
  go_wp2_with fail
  refine (hC).mono ?_
  rintro e w12 ⟨rfl, hb12⟩
  replace ho1 := own_below ho1 hb12; replace ho2 := own_below ho2 hb12; replace ho4 := own_below ho4 hb12; replace ho5 := own_below ho5 hb12; replace ho6 := own_below ho6 hb12; replace ho7 := own_below ho7 hb12; replace hoa := own_below hoa hb12; replace hob := own_below hob hb12
  replace hB := bchain hB hb12
  have z12 := hB.size
  clear hC
  clear hb12 z11
  clear ho6
  obtain ⟨d, hd⟩ : ∃ d, decide (a = b) = d := ⟨_, rfl⟩
  have HD := hid hd
  have q6 := bool_bne d
  clear hd
  have hC := SameSync_any Aa Ab a.length b.length ca cb a b w12 (by omega) (by omega) (Rd.of_own hoa) (Rd.of_own hob)
  rw [HD.out] at hC
  go_wp2_with fail
  refine (hC).mono ?_
  rintro e w13 ⟨rfl, hb13⟩
  replace ho1 := own_below ho1 hb13; replace ho2 := own_below ho2 hb13; replace ho4 := own_below ho4 hb13; replace ho5 := own_below ho5 hb13; replace ho7 := own_below ho7 hb13; replace hoa := own_below hoa hb13; replace hob := own_below hob hb13
  replace hB := bchain hB hb13
  have z13 := hB.size
  clear hC
  clear hb13 z12
  have hC := specSameSync_any Aa Ab a.length b.length ca cb a b w13 (by omega) (by omega) (Rd.of_own hoa) (Rd.of_own hob)
  rw [HD.out] at hC
  go_wp2_with fail
  refine (hC).mono ?_
  rintro e w14 ⟨rfl, hb14⟩
  replace ho1 := own_below ho1 hb14; replace ho2 := own_below ho2 hb14; replace ho4 := own_below ho4 hb14; replace ho5 := own_below ho5 hb14; replace ho7 := own_below ho7 hb14; replace hoa := own_below hoa hb14; replace hob := own_below hob hb14
  replace hB := bchain hB hb14
  have z14 := hB.size
  clear hC
  clear hb14 z13
  clear hoa hob
  have hC := ValidSync_any A7 cl.length c7 cl w14 (by omega) (Rd.of_own ho7)
  rw [syOk_code, HCL.out] at hC
  simp only at hC
  have q7 := bool_bne (k3 == 0)
  go_wp2_with fail
  refine (hC).mono ?_
  rintro e w15 ⟨rfl, hb15⟩
  replace ho1 := own_below ho1 hb15; replace ho2 := own_below ho2 hb15; replace ho4 := own_below ho4 hb15; replace ho5 := own_below ho5 hb15; replace ho7 := own_below ho7 hb15
  replace hB := bchain hB hb15
  have z15 := hB.size
  clear hC
  clear hb15 z14
  clear ho7
  clear q1 q2 q3 q4 q5 q6
  by_cases hsc : sc = 0
  · skip
    have hy := star_yes (q := q) (by rw [HS.out]; exact hsc)
    rw [HS.out] at hy
    obtain ⟨hok, hsq, hq1, hq3⟩ := hy
    simp only at hsq
    have hY : sq.length = 2 * q.length := by rw [hsq, List.length_append, mirP_len]; omega
    have hM : mirP sq = mirP q ++ q := by rw [hsq, mirP_append, mirP_mir]
    rw [← hsq] at hok
    subst hsc
    obtain ⟨g5, c5', hv5, hg5, _⟩ := own_block ho5 (by omega)
    injection hv5 with e1 e2 e3
    subst e1 e3
    have hC := MirrorSync_any (some ⟨g5, 0, none⟩) sq.length c5 sq w15 (by omega) (Rd.of_own ho5)
    rw [mir_ok hok] at hC
    have hC := hid hC
    have HY := hid hY
    have HM2 := hid hM
    have HSQ := hid hsq
    clear hY hM hok hsq
    go_wp2_with fail
    refine (hC.out).mono ?_
    rintro e w16 ⟨⟨A8, c8, hA8, rfl, ho8⟩, hb16⟩
    replace ho1 := own_below ho1 hb16; replace ho2 := own_below ho2 hb16; replace ho4 := own_below ho4 hb16; replace ho5 := own_below ho5 hb16
    replace hB := bchain hB hb16
    have z16 := hB.size
    clear hC hA8
    simp only at ho8
    clear hb16 z15
    have hml : (mirP sq).length = sq.length := mirP_len sq
    have hsl := HY.out
    rw [hml] at ho8
    obtain ⟨g8, c8', hv8, hg8, _⟩ := own_block ho8 (by omega)
    injection hv8 with e1 e2 e3
    subst e1 e3
    obtain ⟨_, _, e5, _, hcap5⟩ := own_form2 ho5
    injection e5 with ea eb ec
    rw [← ec] at hcap5
    clear ea eb ec
    obtain ⟨_, _, e8, _, hcap8⟩ := own_form2 ho8
    injection e8 with ea eb ec
    rw [← ec] at hcap8
    clear ea eb ec
    have f1 : ((sq.length : Int) != 2 * (q.length : Int)) = false := by simp; omega
    have f2 : (((mirP sq).length : Int) != 2 * (q.length : Int)) = false := by rw [hml]; exact f1
    have hw1 : IntKind.i64.wrap (2 * (q.length : Int)) = 2 * (q.length : Int) := IntWalk.i64_in _ (by omega)
    have b1 : (q.length : Int) ≤ (c5 : Int) := by omega
    have b2 : (q.length : Int) ≤ (c8 : Int) := by omega
    have b3 : (q.length : Int) ≤ (sq.length : Int) := by omega
    have b4 : (q.length : Int) ≤ ((mirP sq).length : Int) := by omega
    have b5 : ¬ c5 = q.length := by omega
    have b6 : ¬ c8 = q.length := by omega
    have b7 : (0 : Int) ≤ (q.length : Int) := by omega
    have HML := hid hml
    clear hsl hml
    go_wp2
    have hR8 := (show Rd w16 w16.heap.size 4 (some ⟨g8, 0, none⟩) sq.length (bts (mirP sq)) from Rd.of_own ho8)
    have hR5 := (show Rd w16 w16.heap.size 4 (some ⟨g5, 0, none⟩) sq.length (bts sq) from Rd.of_own ho5)
    have hA := hR8.cutB (i := 0) (k := q.length) (by omega) (by omega)
    have hB2 := hR5.cutB (i := q.length) (k := sq.length) (by omega) (by omega)
    have hC := hR8.cutB (i := q.length) (k := sq.length) (by omega) (by omega)
    have hD := hR5.cutB (i := 0) (k := q.length) (by omega) (by omega)
    rw [HM2.out] at hA hC
    rw [List.drop_zero, List.take_left' (mirP_len q), Nat.sub_zero, Nat.zero_mul] at hA
    rw [List.take_of_length_le (by rw [List.length_append, mirP_len]; have := HY.out; omega), List.drop_left' (mirP_len q)] at hC
    rw [List.take_of_length_le (Nat.le_refl _), HSQ.out, List.drop_left, ← HSQ.out] at hB2
    rw [HSQ.out, List.drop_zero, List.take_left, Nat.sub_zero, Nat.zero_mul] at hD
    simp only [Nat.zero_add, Nat.add_zero] at hA hB2 hC hD
    rw [← HML.out] at hC
    have HQ1 := hid (fun x => quiet_drew (same_true (specSameSync_quiet _ _ _ _ c8 (c5 - q.length) _ _ (w16.drewN x) (by omega) (by omega) (hA.drewN x) (hB2.drewN x))))
    have HQ2 := hid (fun x => quiet_drew (same_true (specSameSync_quiet _ _ _ _ (c8 - q.length) c5 _ _ (w16.drewN x) (by have := HML.out; omega) (by omega) (hC.drewN x) (hD.drewN x))))
    clear hA hB2 hC hD hR8 hR5
    go_quiet (first | (go_at_call 22; with_reducible exact HQ1.out _) | (go_at_call 22; with_reducible exact HQ2.out _))
    have hBn : Below w.heap.size w (w16.drewN nq) := (by repeat' (first | exact Below.refl _ _ | (with_reducible assumption) | (with_reducible refine Below.alloc ?_ ?_ _) | (with_reducible refine Below.setCell ?_ ?_ _) | (with_reducible refine Below.drew ?_) | (with_reducible refine below_drewN ?_ _) | (refine Below.trans ?_ (Below.mono (by assumption) ?_)) | (with_reducible exact Nat.le_refl _) | (with_reducible assumption) | (exact Below.size (by assumption)) | omega | go_size | (simp at *; omega)))
    replace ho1 : (w16.drewN nq).ownsRow w.heap.size 92 4 (.slice A1 p.length c1) p.length (bts p) := ho1
    replace ho2 : (w16.drewN nq).ownsRow w1.heap.size 92 4 (.slice A2 mp.length c2) mp.length (bts mp) := ho2
    replace hB : Below w.heap.size w (w16.drewN nq) := hBn
    clear ho5 ho8 hBn hcap5 hcap8 f1 f2 b1 b2 b3 b4 b5 b6 b7 hw1 HQ1 HQ2 hg5 hg8
    generalize w16.drewN nq = w16d at *
    by_cases hmc : mc = 0
    · have hy := mir_yes (p := p) (by rw [HM.out]; exact hmc)
      rw [HM.out] at hy
      obtain ⟨hok, hmp⟩ := hy
      simp only at hmp
      subst hmc hmp
      have HOK := hid hok
      have hpl6 := (syOk_bd hok).2
      have hml := mirP_len p
      clear hok
      have hC := SyncProps_any A1 p.length c1 p w16d (by omega) (Rd.of_own ho1)
      rw [props_ok HOK.out] at hC
      have hC := hid hC
      have HML := hid hml
      clear hml
      go_wp2_with fail
      refine (hC.out).mono ?_
      rintro e w17 ⟨rfl, hb17⟩
      replace ho1 := own_below ho1 hb17; replace ho2 := own_below ho2 hb17
      replace hB := bchain hB hb17
      have z17 := hB.size
      clear hC
      clear hb17 z16
      have hC := SyncProps_any A2 (mirP p).length c2 (mirP p) w17 (by omega) (Rd.of_own ho2)
      rw [props_ok (syOk_mir HOK.out), syPr_mir] at hC
      have hC := hid hC
      go_wp2_with fail
      refine (hC.out).mono ?_
      rintro e w18 ⟨rfl, hb18⟩
      replace ho1 := own_below ho1 hb18; replace ho2 := own_below ho2 hb18
      replace hB := bchain hB hb18
      have z18 := hB.size
      clear hC
      clear hb18 z17
      have hC := MirrorSync_any A2 (mirP p).length c2 (mirP p) w18 (by omega) (Rd.of_own ho2)
      rw [mir_ok (syOk_mir HOK.out), mirP_mir] at hC
      have hC := hid hC
      go_wp2_with fail
      refine (hC.out).mono ?_
      rintro e w19 ⟨⟨A9, c9, hA9, rfl, ho9⟩, hb19⟩
      replace ho1 := own_below ho1 hb19; replace ho2 := own_below ho2 hb19
      replace hB := bchain hB hb19
      have z19 := hB.size
      clear hC hA9
      simp only at ho9
      clear hb19 z18
      have hC := specSameSync_any A9 A1 p.length p.length c9 c1 p p w19 (by omega) (by omega) (Rd.of_own ho9) (Rd.of_own ho1)
      rw [same_bts] at hC
      have hC := hid hC
      have q9 : (syPr p == syPr p) = true := by simp
      go_wp2_with fail
      refine (hC.out).mono ?_
      rintro e w20 ⟨rfl, hb20⟩
      replace ho1 := own_below ho1 hb20; replace ho2 := own_below ho2 hb20; replace ho9 := own_below ho9 hb20
      replace hB := bchain hB hb20
      have z20 := hB.size
      clear hC
      clear hb20 z19
      go_wp2
      go_ret
      exact ⟨rfl, hB⟩
    · have hq1 : (mc != 0) = true := by simpa using hmc
      clear hmc
      go_wp2
      go_ret
      exact ⟨rfl, hB⟩
  · have hq1 : (sc == 0) = false := by simpa using hsc
    clear hsc
    clear ho5
    by_cases hmc : mc = 0
    · have hy := mir_yes (p := p) (by rw [HM.out]; exact hmc)
      rw [HM.out] at hy
      obtain ⟨hok, hmp⟩ := hy
      simp only at hmp
      subst hmc hmp
      have HOK := hid hok
      have hpl6 := (syOk_bd hok).2
      have hml := mirP_len p
      clear hok
      have hC := SyncProps_any A1 p.length c1 p w15 (by omega) (Rd.of_own ho1)
      rw [props_ok HOK.out] at hC
      have hC := hid hC
      have HML := hid hml
      clear hml
      go_wp2_with fail
      refine (hC.out).mono ?_
      rintro e w16 ⟨rfl, hb16⟩
      replace ho1 := own_below ho1 hb16; replace ho2 := own_below ho2 hb16
      replace hB := bchain hB hb16
      have z16 := hB.size
      clear hC
      clear hb16 z15
      have hC := SyncProps_any A2 (mirP p).length c2 (mirP p) w16 (by omega) (Rd.of_own ho2)
      rw [props_ok (syOk_mir HOK.out), syPr_mir] at hC
      have hC := hid hC
      go_wp2_with fail
      refine (hC.out).mono ?_
      rintro e w17 ⟨rfl, hb17⟩
      replace ho1 := own_below ho1 hb17; replace ho2 := own_below ho2 hb17
      replace hB := bchain hB hb17
      have z17 := hB.size
      clear hC
      clear hb17 z16
      have hC := MirrorSync_any A2 (mirP p).length c2 (mirP p) w17 (by omega) (Rd.of_own ho2)
      rw [mir_ok (syOk_mir HOK.out), mirP_mir] at hC
      have hC := hid hC
      go_wp2_with fail
      refine (hC.out).mono ?_
      rintro e w18 ⟨⟨A9, c9, hA9, rfl, ho9⟩, hb18⟩
      replace ho1 := own_below ho1 hb18; replace ho2 := own_below ho2 hb18
      replace hB := bchain hB hb18
      have z18 := hB.size
      clear hC hA9
      simp only at ho9
      clear hb18 z17
      have hC := specSameSync_any A9 A1 p.length p.length c9 c1 p p w18 (by omega) (by omega) (Rd.of_own ho9) (Rd.of_own ho1)
      rw [same_bts] at hC
      have hC := hid hC
      have q9 : (syPr p == syPr p) = true := by simp
      go_wp2_with fail
      refine (hC.out).mono ?_
      rintro e w19 ⟨rfl, hb19⟩
      replace ho1 := own_below ho1 hb19; replace ho2 := own_below ho2 hb19; replace ho9 := own_below ho9 hb19
      replace hB := bchain hB hb19
      have z19 := hB.size
      clear hC
      clear hb19 z18
      go_wp2
      go_ret
      exact ⟨rfl, hB⟩
    · have hq1 : (mc != 0) = true := by simpa using hmc
      clear hmc
      go_wp2
      go_ret
      exact ⟨rfl, hB⟩
set_option maxRecDepth 100000 in
theorem fnMirrors_walk (w : World) (A : Option Addr) (n c : Nat) (xs : List Int) (hK : Came .u8 w A n c xs) :
    Calls Try.prog 3 #[.slice A n c] w fun e w' => e = .returned (.bool true) ∧ Below w.heap.size w w' := by
  by_cases h : n ≤ 4096
  · exact fnMirrors_main w A n c xs hK h
  · have hq : decide (4096 < n) = true := by simp; omega
    have h1 := hK.2.1; have h2 := hK.2.2.1
    unfold maxLen at h2
    have hL := f6big_any A n c w (by omega)
    rw [hq] at hL
    have hL := hid hL
    clear hK h hq
    go_enter Try.func3, Try.ntmps3
    go_wp2_with (go_at_call 11; refine (hL.out).mono ?_; rintro e w' ⟨rfl, rfl⟩)
    go_ret
    exact ⟨rfl, (by repeat' (first | exact Below.refl _ _ | (with_reducible assumption) | (with_reducible refine Below.alloc ?_ ?_ _) | (with_reducible refine Below.setCell ?_ ?_ _) | (with_reducible refine Below.drew ?_) | (with_reducible refine below_drewN ?_ _) | (refine Below.trans ?_ (Below.mono (by assumption) ?_)) | (with_reducible exact Nat.le_refl _) | (with_reducible assumption) | (exact Below.size (by assumption)) | omega | go_size | (simp at *; omega)))⟩
end Go.Proofs.Ytjagejalchfhlaa
