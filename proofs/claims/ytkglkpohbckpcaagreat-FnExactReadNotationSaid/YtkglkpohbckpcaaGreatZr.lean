/- Contracts of ReadSync, both. -/
import Derived.Test.YtkglkpohbckpcaaGreatZb
import Derived.Test.YtkglkpohbckpcaaGreatYm
namespace Go.Proofs.YtkglkpohbckpcaaGreat
open Go.RowKit
set_option linter.unusedVariables false

/-- Beats of the call's own, and a yes or no. -/
def RsRes (B : Nat) (r : List Beat × Bool) (e : Ending) (w : World) : Prop := ∃ A c, (A = none → c = 0) ∧ e = .returned (.tuple #[.slice A r.1.length c, .bool r.2]) ∧ w.ownsRow B 100 4 (.slice A r.1.length c) r.1.length (bts r.1)
theorem RsRes.no (B : Nat) (w : World) (b : Bool) : RsRes B ([], b) (.returned (.tuple #[.slice none 0 0, .bool b])) w := ⟨none, 0, fun _ => rfl, rfl, World.ownsRow_nil _ _ _ _⟩
theorem RsRes.mk {B : Nat} {A : Option Addr} {c : Nat} {w : World} {q : List Beat} {b : Bool} (hA : A = none → c = 0) (h : w.ownsRow B 100 4 (.slice A q.length c) q.length (bts q)) : RsRes B (q, b) (.returned (.tuple #[.slice A q.length c, .bool b])) w := ⟨A, c, hA, rfl, h⟩
theorem u8_eq {x c : UInt8} : (((x.toNat : Int)) == (c.toNat : Int)) = decide (x = c) := by
  rw [Bool.eq_iff_iff]
  simp only [beq_iff_eq, Int.natCast_inj, decide_eq_true_eq]
  exact UInt8.toNat_inj
theorem tl_last {s : ByteArray} {n : Nat} (h : s.size = n + 1) : (tl s).getLast? = some (s[n]'(by omega)) := by
  rw [List.getLast?_eq_getElem?, tl_len, show s.size - 1 = n by omega]
  exact tl_at s n (by omega)
theorem tl_init {s : ByteArray} {n : Nat} (h : s.size = n + 1) : tl (s.extract 0 n) = (tl s).dropLast := by
  rw [tl_extract, List.drop_zero, List.dropLast_eq_take, tl_len, h, show n + 1 - 1 = n by omega]
def rsStar : Option (List Beat) → List Beat × Bool
  | some p => ((rStarSync p).1, (rStarSync p).2 == 0)
  | none => ([], false)
def rsElse : Option (List Beat) → List Beat × Bool
  | some p => if syOk p then (p, true) else ([], false)
  | none => ([], false)
theorem rsElse_T {p : List Beat} {b : Bool} (h : syOk p = b) : rsElse (some p) = if b then (p, true) else ([], false) := by rw [← h]; rfl
theorem rRead_star {l : List UInt8} (h : l.getLast? = some 42) : rReadSync l = rsStar (rdB l.dropLast) := by
  unfold rReadSync rsStar; rw [if_pos h]; cases rdB l.dropLast <;> rfl
theorem rRead_else {l : List UInt8} (h : l.getLast? ≠ some 42) : rReadSync l = rsElse (rdB l) := by
  unfold rReadSync rsElse; rw [if_neg h]; cases rdB l <;> rfl
set_option maxHeartbeats 1000000 in
theorem ReadSync_any (s : ByteArray) (w : World) (hs : s.size ≤ 1099511627775) :
    Calls Tryz.prog 30 #[.string s] w fun e w' => RsRes w.heap.size (rReadSync (tl s)) e w' ∧ Below w.heap.size w w' := by
  by_cases hst : (tl s).getLast? = some 42
  · obtain ⟨n, hn⟩ : ∃ n, s.size = n + 1 := ⟨s.size - 1, by
      have : s.size ≠ 0 := fun e => by rw [List.getLast?_eq_getElem?, List.getElem?_eq_none (by rw [tl_len]; omega)] at hst; cases hst
      omega⟩
    have h42 := hst
    rw [tl_last hn] at h42
    injection h42 with h42
    obtain ⟨sub, hsub⟩ : ∃ sub, s.extract 0 n = sub := ⟨_, rfl⟩
    have hsl : tl sub = (tl s).dropLast := by rw [← hsub]; exact tl_init hn
    have hC := readBeats_any sub w (by rw [← hsub, ByteArray.size_extract]; omega)
    rw [hsl] at hC
    rw [rRead_star hst]
    generalize rdB (tl s).dropLast = r at *
    have hni : n < s.size := by omega
    have hnI : (n : Int) < (s.size : Int) := by omega
    have hn2 : (n : Int) ≤ (s.size : Int) := by omega
    have hpos : (0 : Int) < (s.size : Int) := by omega
    have hsz : IntKind.i64.wrap ((s.size : Int) - 1) = (n : Int) := by rw [show (s.size : Int) - 1 = (n : Int) by omega]; exact IntWalk.i64_in (n : Int) (by omega)
    have hq : (((s[n]'hni).toNat : Int) == 42) = true := by rw [h42]; rfl
    have hC := hid hC
    clear hst hsl h42
    go_enter Tryz.func30, Tryz.ntmps30
    go_wp2_with fail
    refine hC.out.mono ?_
    rintro e w1 ⟨⟨q, A, c, hA, hq7, rfl, ho, hqr⟩, hb1⟩
    have HQ := hid hqr
    cases r with
    | none =>
      clear hC hqr
      go_wp2
      go_ret2
      exact ⟨RsRes.no _ _ _, hb1⟩
    | some q1 =>
      have e1 := hqr q1 rfl
      subst e1
      have hS := hid (StarSync_any A q1.length c q1 w1 (by omega) hA (Rd.of_own ho))
      have HB := hid hb1
      clear hC HQ hqr
      go_wp2_with fail
      refine hS.out.mono ?_
      rintro e w2 ⟨⟨A2, c2, hA2, rfl, ho2⟩, hb2⟩
      clear hS
      go_wp2
      go_ret2
      exact ⟨RsRes.mk hA2 (own_more ho2 hb1.size), (by repeat' (first | exact Below.refl _ _ | (with_reducible assumption) | (with_reducible refine Below.alloc ?_ ?_ _) | (with_reducible refine Below.setCell ?_ ?_ _) | (with_reducible refine Below.drew ?_) | (with_reducible refine below_drewN ?_ _) | (refine Below.trans ?_ (Below.mono (by assumption) ?_)) | (with_reducible exact Nat.le_refl _) | (with_reducible assumption) | (exact Below.size (by assumption)) | omega | go_size | (simp at *; omega)))⟩
  · have hC := readBeats_any s w (by omega)
    rw [rRead_else hst]
    generalize rdB (tl s) = r at *
    have hC := hid hC
    by_cases hz : s.size = 0
    · have hpos : ¬ (0 : Int) < (s.size : Int) := by omega
      clear hst hz
      go_enter Tryz.func30, Tryz.ntmps30
      go_wp2_with fail
      refine hC.out.mono ?_
      rintro e w1 ⟨⟨q, A, c, hA, hq7, rfl, ho, hqr⟩, hb1⟩
      cases r with
      | none =>
        clear hC hqr
        go_wp2
        go_ret2
        exact ⟨RsRes.no _ _ _, hb1⟩
      | some q1 =>
        have e1 := hqr q1 rfl
        subst e1
        have hV := ValidSync_any A q1.length c q1 w1 (by omega) (Rd.of_own ho)
        cases hp : syOk q1 with
        | true =>
          rw [hp] at hV
          have hV := hid hV
          have HE := hid (rsElse_T hp)
          clear hC hqr hp
          go_wp2_with fail
          refine hV.out.mono ?_
          rintro e w2 ⟨rfl, hb2⟩
          clear hV
          go_wp2
          go_ret2
          exact ⟨by rw [HE.out]; exact RsRes.mk hA (own_below ho hb2), (by repeat' (first | exact Below.refl _ _ | (with_reducible assumption) | (with_reducible refine Below.alloc ?_ ?_ _) | (with_reducible refine Below.setCell ?_ ?_ _) | (with_reducible refine Below.drew ?_) | (with_reducible refine below_drewN ?_ _) | (refine Below.trans ?_ (Below.mono (by assumption) ?_)) | (with_reducible exact Nat.le_refl _) | (with_reducible assumption) | (exact Below.size (by assumption)) | omega | go_size | (simp at *; omega)))⟩
        | false =>
          rw [hp] at hV
          have hV := hid hV
          have HE := hid (rsElse_T hp)
          clear hC hqr hp
          go_wp2_with fail
          refine hV.out.mono ?_
          rintro e w2 ⟨rfl, hb2⟩
          clear hV
          go_wp2
          go_ret2
          exact ⟨by rw [HE.out]; exact RsRes.no _ _ _, (by repeat' (first | exact Below.refl _ _ | (with_reducible assumption) | (with_reducible refine Below.alloc ?_ ?_ _) | (with_reducible refine Below.setCell ?_ ?_ _) | (with_reducible refine Below.drew ?_) | (with_reducible refine below_drewN ?_ _) | (refine Below.trans ?_ (Below.mono (by assumption) ?_)) | (with_reducible exact Nat.le_refl _) | (with_reducible assumption) | (exact Below.size (by assumption)) | omega | go_size | (simp at *; omega)))⟩
    · obtain ⟨n, hn⟩ : ∃ n, s.size = n + 1 := ⟨s.size - 1, by omega⟩
      have hni : n < s.size := by omega
      have h42 : s[n]'hni ≠ 42 := fun e => hst (by rw [tl_last hn, e])
      have hq : (((s[n]'hni).toNat : Int) == 42) = false := by rw [show (42 : Int) = ((42 : UInt8).toNat : Int) from rfl, u8_eq]; exact decide_eq_false h42
      have hnI : (n : Int) < (s.size : Int) := by omega
      have hpos : (0 : Int) < (s.size : Int) := by omega
      have hsz : IntKind.i64.wrap ((s.size : Int) - 1) = (n : Int) := by rw [show (s.size : Int) - 1 = (n : Int) by omega]; exact IntWalk.i64_in (n : Int) (by omega)
      clear hst hz h42 hn
      go_enter Tryz.func30, Tryz.ntmps30
      go_wp2_with fail
      refine hC.out.mono ?_
      rintro e w1 ⟨⟨q, A, c, hA, hq7, rfl, ho, hqr⟩, hb1⟩
      cases r with
      | none =>
        clear hC hqr
        go_wp2
        go_ret2
        exact ⟨RsRes.no _ _ _, hb1⟩
      | some q1 =>
        have e1 := hqr q1 rfl
        subst e1
        have hV := ValidSync_any A q1.length c q1 w1 (by omega) (Rd.of_own ho)
        cases hp : syOk q1 with
        | true =>
          rw [hp] at hV
          have hV := hid hV
          have HE := hid (rsElse_T hp)
          clear hC hqr hp
          go_wp2_with fail
          refine hV.out.mono ?_
          rintro e w2 ⟨rfl, hb2⟩
          clear hV
          go_wp2
          go_ret2
          exact ⟨by rw [HE.out]; exact RsRes.mk hA (own_below ho hb2), (by repeat' (first | exact Below.refl _ _ | (with_reducible assumption) | (with_reducible refine Below.alloc ?_ ?_ _) | (with_reducible refine Below.setCell ?_ ?_ _) | (with_reducible refine Below.drew ?_) | (with_reducible refine below_drewN ?_ _) | (refine Below.trans ?_ (Below.mono (by assumption) ?_)) | (with_reducible exact Nat.le_refl _) | (with_reducible assumption) | (exact Below.size (by assumption)) | omega | go_size | (simp at *; omega)))⟩
        | false =>
          rw [hp] at hV
          have hV := hid hV
          have HE := hid (rsElse_T hp)
          clear hC hqr hp
          go_wp2_with fail
          refine hV.out.mono ?_
          rintro e w2 ⟨rfl, hb2⟩
          clear hV
          go_wp2
          go_ret2
          exact ⟨by rw [HE.out]; exact RsRes.no _ _ _, (by repeat' (first | exact Below.refl _ _ | (with_reducible assumption) | (with_reducible refine Below.alloc ?_ ?_ _) | (with_reducible refine Below.setCell ?_ ?_ _) | (with_reducible refine Below.drew ?_) | (with_reducible refine below_drewN ?_ _) | (refine Below.trans ?_ (Below.mono (by assumption) ?_)) | (with_reducible exact Nat.le_refl _) | (with_reducible assumption) | (exact Below.size (by assumption)) | omega | go_size | (simp at *; omega)))⟩
set_option maxHeartbeats 1000000 in
theorem specReadSync_any (s : ByteArray) (w : World) (hs : s.size ≤ 1099511627775) :
    Calls Tryz.prog 74 #[.string s] w fun e w' => RsRes w.heap.size (rReadSync (tl s)) e w' ∧ Below w.heap.size w w' := by
  by_cases hst : (tl s).getLast? = some 42
  · obtain ⟨n, hn⟩ : ∃ n, s.size = n + 1 := ⟨s.size - 1, by
      have : s.size ≠ 0 := fun e => by rw [List.getLast?_eq_getElem?, List.getElem?_eq_none (by rw [tl_len]; omega)] at hst; cases hst
      omega⟩
    have h42 := hst
    rw [tl_last hn] at h42
    injection h42 with h42
    obtain ⟨sub, hsub⟩ : ∃ sub, s.extract 0 n = sub := ⟨_, rfl⟩
    have hsl : tl sub = (tl s).dropLast := by rw [← hsub]; exact tl_init hn
    have hC := l05Beats_any sub w (by rw [← hsub, ByteArray.size_extract]; omega)
    rw [hsl] at hC
    rw [rRead_star hst]
    generalize rdB (tl s).dropLast = r at *
    have hni : n < s.size := by omega
    have hnI : (n : Int) < (s.size : Int) := by omega
    have hn2 : (n : Int) ≤ (s.size : Int) := by omega
    have hpos : s.toList.isEmpty = false := by rw [tl_empty]; exact decide_eq_false (fun e => by have := tl_len s; rw [e] at this; simp at this; omega)
    have hsz : IntKind.i64.wrap ((s.size : Int) - 1) = (n : Int) := by rw [show (s.size : Int) - 1 = (n : Int) by omega]; exact IntWalk.i64_in (n : Int) (by omega)
    have hq : (((s[n]'hni).toNat : Int) == 42) = true := by rw [h42]; rfl
    have hC := hid hC
    clear hst hsl h42
    go_enter Tryz.func74, Tryz.ntmps74
    go_wp2_with fail
    refine hC.out.mono ?_
    rintro e w1 ⟨⟨q, A, c, hA, hq7, rfl, ho, hqr⟩, hb1⟩
    have HQ := hid hqr
    cases r with
    | none =>
      clear hC hqr
      go_wp2
      go_ret2
      exact ⟨RsRes.no _ _ _, hb1⟩
    | some q1 =>
      have e1 := hqr q1 rfl
      subst e1
      have hS := hid (specStarSync_any A q1.length c q1 w1 (by omega) hA (Rd.of_own ho))
      have HB := hid hb1
      clear hC HQ hqr
      go_wp2_with fail
      refine hS.out.mono ?_
      rintro e w2 ⟨⟨A2, c2, hA2, rfl, ho2⟩, hb2⟩
      clear hS
      go_wp2
      go_ret2
      exact ⟨RsRes.mk hA2 (own_more ho2 hb1.size), (by repeat' (first | exact Below.refl _ _ | (with_reducible assumption) | (with_reducible refine Below.alloc ?_ ?_ _) | (with_reducible refine Below.setCell ?_ ?_ _) | (with_reducible refine Below.drew ?_) | (with_reducible refine below_drewN ?_ _) | (refine Below.trans ?_ (Below.mono (by assumption) ?_)) | (with_reducible exact Nat.le_refl _) | (with_reducible assumption) | (exact Below.size (by assumption)) | omega | go_size | (simp at *; omega)))⟩
  · have hC := l05Beats_any s w (by omega)
    rw [rRead_else hst]
    generalize rdB (tl s) = r at *
    have hC := hid hC
    by_cases hz : s.size = 0
    · have hpos : s.toList.isEmpty = true := by rw [tl_empty]; exact decide_eq_true (List.eq_nil_of_length_eq_zero (by rw [tl_len]; exact hz))
      clear hst hz
      go_enter Tryz.func74, Tryz.ntmps74
      go_wp2_with fail
      refine hC.out.mono ?_
      rintro e w1 ⟨⟨q, A, c, hA, hq7, rfl, ho, hqr⟩, hb1⟩
      cases r with
      | none =>
        clear hC hqr
        go_wp2
        go_ret2
        exact ⟨RsRes.no _ _ _, hb1⟩
      | some q1 =>
        have e1 := hqr q1 rfl
        subst e1
        have hV := l05Ok_any A q1.length c q1 w1 (by omega) (Rd.of_own ho)
        cases hp : syOk q1 with
        | true =>
          rw [hp] at hV
          have hV := hid hV
          have HE := hid (rsElse_T hp)
          clear hC hqr hp
          go_wp2_with fail
          refine hV.out.mono ?_
          rintro e w2 ⟨rfl, hb2⟩
          clear hV
          go_wp2
          go_ret2
          exact ⟨by rw [HE.out]; exact RsRes.mk hA (own_below ho hb2), (by repeat' (first | exact Below.refl _ _ | (with_reducible assumption) | (with_reducible refine Below.alloc ?_ ?_ _) | (with_reducible refine Below.setCell ?_ ?_ _) | (with_reducible refine Below.drew ?_) | (with_reducible refine below_drewN ?_ _) | (refine Below.trans ?_ (Below.mono (by assumption) ?_)) | (with_reducible exact Nat.le_refl _) | (with_reducible assumption) | (exact Below.size (by assumption)) | omega | go_size | (simp at *; omega)))⟩
        | false =>
          rw [hp] at hV
          have hV := hid hV
          have HE := hid (rsElse_T hp)
          clear hC hqr hp
          go_wp2_with fail
          refine hV.out.mono ?_
          rintro e w2 ⟨rfl, hb2⟩
          clear hV
          go_wp2
          go_ret2
          exact ⟨by rw [HE.out]; exact RsRes.no _ _ _, (by repeat' (first | exact Below.refl _ _ | (with_reducible assumption) | (with_reducible refine Below.alloc ?_ ?_ _) | (with_reducible refine Below.setCell ?_ ?_ _) | (with_reducible refine Below.drew ?_) | (with_reducible refine below_drewN ?_ _) | (refine Below.trans ?_ (Below.mono (by assumption) ?_)) | (with_reducible exact Nat.le_refl _) | (with_reducible assumption) | (exact Below.size (by assumption)) | omega | go_size | (simp at *; omega)))⟩
    · obtain ⟨n, hn⟩ : ∃ n, s.size = n + 1 := ⟨s.size - 1, by omega⟩
      have hni : n < s.size := by omega
      have h42 : s[n]'hni ≠ 42 := fun e => hst (by rw [tl_last hn, e])
      have hq : (((s[n]'hni).toNat : Int) == 42) = false := by rw [show (42 : Int) = ((42 : UInt8).toNat : Int) from rfl, u8_eq]; exact decide_eq_false h42
      have hnI : (n : Int) < (s.size : Int) := by omega
      have hpos : s.toList.isEmpty = false := by rw [tl_empty]; exact decide_eq_false (fun e => by have := tl_len s; rw [e] at this; simp at this; omega)
      have hsz : IntKind.i64.wrap ((s.size : Int) - 1) = (n : Int) := by rw [show (s.size : Int) - 1 = (n : Int) by omega]; exact IntWalk.i64_in (n : Int) (by omega)
      clear hst hz h42 hn
      go_enter Tryz.func74, Tryz.ntmps74
      go_wp2_with fail
      refine hC.out.mono ?_
      rintro e w1 ⟨⟨q, A, c, hA, hq7, rfl, ho, hqr⟩, hb1⟩
      cases r with
      | none =>
        clear hC hqr
        go_wp2
        go_ret2
        exact ⟨RsRes.no _ _ _, hb1⟩
      | some q1 =>
        have e1 := hqr q1 rfl
        subst e1
        have hV := l05Ok_any A q1.length c q1 w1 (by omega) (Rd.of_own ho)
        cases hp : syOk q1 with
        | true =>
          rw [hp] at hV
          have hV := hid hV
          have HE := hid (rsElse_T hp)
          clear hC hqr hp
          go_wp2_with fail
          refine hV.out.mono ?_
          rintro e w2 ⟨rfl, hb2⟩
          clear hV
          go_wp2
          go_ret2
          exact ⟨by rw [HE.out]; exact RsRes.mk hA (own_below ho hb2), (by repeat' (first | exact Below.refl _ _ | (with_reducible assumption) | (with_reducible refine Below.alloc ?_ ?_ _) | (with_reducible refine Below.setCell ?_ ?_ _) | (with_reducible refine Below.drew ?_) | (with_reducible refine below_drewN ?_ _) | (refine Below.trans ?_ (Below.mono (by assumption) ?_)) | (with_reducible exact Nat.le_refl _) | (with_reducible assumption) | (exact Below.size (by assumption)) | omega | go_size | (simp at *; omega)))⟩
        | false =>
          rw [hp] at hV
          have hV := hid hV
          have HE := hid (rsElse_T hp)
          clear hC hqr hp
          go_wp2_with fail
          refine hV.out.mono ?_
          rintro e w2 ⟨rfl, hb2⟩
          clear hV
          go_wp2
          go_ret2
          exact ⟨by rw [HE.out]; exact RsRes.no _ _ _, (by repeat' (first | exact Below.refl _ _ | (with_reducible assumption) | (with_reducible refine Below.alloc ?_ ?_ _) | (with_reducible refine Below.setCell ?_ ?_ _) | (with_reducible refine Below.drew ?_) | (with_reducible refine below_drewN ?_ _) | (refine Below.trans ?_ (Below.mono (by assumption) ?_)) | (with_reducible exact Nat.le_refl _) | (with_reducible assumption) | (exact Below.size (by assumption)) | omega | go_size | (simp at *; omega)))⟩
end Go.Proofs.YtkglkpohbckpcaaGreat
