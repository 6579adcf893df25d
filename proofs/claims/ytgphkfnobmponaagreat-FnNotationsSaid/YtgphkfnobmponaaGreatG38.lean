/- Several texts in one: Zr, Qf. -/
import Derived.Test.YtgphkfnobmponaaGreatG36
import Derived.Test.YtgphkfnobmponaaGreatG14
import Derived.Test.YtgphkfnobmponaaGreatQe
/- Contracts of ReadSync, both. -/
namespace Go.Proofs.YtgphkfnobmponaaGreat
open Go.RowKit
set_option linter.unusedVariables false

/-- Beats of the call's own, and a yes or no. -/
def RsRes (B : Nat) (r : List Beat × Bool) (e : Ending) (w : World) : Prop := ∃ A c, (A = none → c = 0) ∧ e = .returned (.tuple #[.slice A r.1.length c, .bool r.2]) ∧ w.ownsRow B 95 4 (.slice A r.1.length c) r.1.length (bts r.1)
theorem RsRes.no (B : Nat) (w : World) (b : Bool) : RsRes B ([], b) (.returned (.tuple #[.slice none 0 0, .bool b])) w := ⟨none, 0, fun _ => rfl, rfl, World.ownsRow_nil _ _ _ _⟩
theorem RsRes.mk {B : Nat} {A : Option Addr} {c : Nat} {w : World} {q : List Beat} {b : Bool} (hA : A = none → c = 0) (h : w.ownsRow B 95 4 (.slice A q.length c) q.length (bts q)) : RsRes B (q, b) (.returned (.tuple #[.slice A q.length c, .bool b])) w := ⟨A, c, hA, rfl, h⟩
theorem u8_eq {x c : UInt8} : (((x.toNat : Int)) == (c.toNat : Int)) = decide (x = c) := by
  rw [Bool.eq_iff_iff]
  simp only [beq_iff_eq, Int.natCast_inj, decide_eq_true_eq]
  exact UInt8.toNat_inj
theorem tl_last {s : ByteArray} {n : Nat} (h : s.size = n + 1) : (tl s).getLast? = some (s[n]'(by omega)) := by
  rw [List.getLast?_eq_getElem?, tl_len, show s.size - 1 = n by omega]
  exact tl_at s n (by omega)
theorem tl_init {s : ByteArray} {n : Nat} (h : s.size = n + 1) : tl (s.extract 0 n) = (tl s).dropLast := by
  rw [tl_extract, List.drop_zero, List.dropLast_eq_take, tl_len, h, show n + 1 - 1 = n by omega]
def rsStar : Option (List Beat) → List Beat × Bool
  | some p => ((rStarSync p).1, (rStarSync p).2 == 0)
  | none => ([], false)
def rsElse : Option (List Beat) → List Beat × Bool
  | some p => if syOk p then (p, true) else ([], false)
  | none => ([], false)
theorem rsElse_T {p : List Beat} {b : Bool} (h : syOk p = b) : rsElse (some p) = if b then (p, true) else ([], false) := by rw [← h]; rfl
theorem rRead_star {l : List UInt8} (h : l.getLast? = some 42) : rReadSync l = rsStar (rdB l.dropLast) := by
  unfold rReadSync rsStar; rw [if_pos h]; cases rdB l.dropLast <;> rfl
theorem rRead_else {l : List UInt8} (h : l.getLast? ≠ some 42) : rReadSync l = rsElse (rdB l) := by
  unfold rReadSync rsElse; rw [if_neg h]; cases rdB l <;> rfl
set_option maxHeartbeats 1000000 in
theorem ReadSync_any (s : ByteArray) (w : World) (hs : s.size ≤ 1099511627775) :
    Calls Tryz.prog 32 #[.string s] w fun e w' => RsRes w.heap.size (rReadSync (tl s)) e w' ∧ Below w.heap.size w w' := by
  by_cases hst : (tl s).getLast? = some 42
  · obtain ⟨n, hn⟩ : ∃ n, s.size = n + 1 := ⟨s.size - 1, by
      have : s.size ≠ 0 := fun e => by rw [List.getLast?_eq_getElem?, List.getElem?_eq_none (by rw [tl_len]; omega)] at hst; cases hst
      omega⟩
    have h42 := hst
    rw [tl_last hn] at h42
    injection h42 with h42
    obtain ⟨sub, hsub⟩ : ∃ sub, s.extract 0 n = sub := ⟨_, rfl⟩
    have hsl : tl sub = (tl s).dropLast := by rw [← hsub]; exact tl_init hn
    have hC := readBeats_any sub w (by rw [← hsub, ByteArray.size_extract]; omega)
    rw [hsl] at hC
    rw [rRead_star hst]
    generalize rdB (tl s).dropLast = r at *
    have hni : n < s.size := by omega
    have hnI : (n : Int) < (s.size : Int) := by omega
    have hn2 : (n : Int) ≤ (s.size : Int) := by omega
    have hpos : (0 : Int) < (s.size : Int) := by omega
    have hsz : IntKind.i64.wrap ((s.size : Int) - 1) = (n : Int) := by rw [show (s.size : Int) - 1 = (n : Int) by omega]; exact IntWalk.i64_in (n : Int) (by omega)
    have hq : (((s[n]'hni).toNat : Int) == 42) = true := by rw [h42]; rfl
    have hC := hid hC
    clear hst hsl h42
    go_enter Tryz.func32, Tryz.ntmps32
    go_wp2_with fail
    refine hC.out.mono ?_
    rintro e w1 ⟨⟨q, A, c, hA, hq7, rfl, ho, hqr⟩, hb1⟩
    have HQ := hid hqr
    cases r with
    | none =>
      clear hC hqr
      go_wp2
      go_ret2
      exact ⟨RsRes.no _ _ _, hb1⟩
    | some q1 =>
      have e1 := hqr q1 rfl
      subst e1
      have hS := hid (StarSync_any A q1.length c q1 w1 (by omega) hA (Rd.of_own ho))
      have HB := hid hb1
      clear hC HQ hqr
      go_wp2_with fail
      refine hS.out.mono ?_
      rintro e w2 ⟨⟨A2, c2, hA2, rfl, ho2⟩, hb2⟩
      clear hS
      go_wp2
      go_ret2
      exact ⟨RsRes.mk hA2 (own_more ho2 hb1.size), (by repeat' (first | exact Below.refl _ _ | (with_reducible first | assumption | exact Nat.le_refl _ | refine Below.alloc ?_ ?_ _ | refine Below.setCell ?_ ?_ _ | refine Below.drew ?_ | refine below_drewN ?_ _) | refine Below.trans ?_ (Below.mono (by assumption) ?_) | exact Below.size (by assumption) | omega | go_size | (simp at *; omega)))⟩
  · have hC := readBeats_any s w (by omega)
    rw [rRead_else hst]
    generalize rdB (tl s) = r at *
    have hC := hid hC
    by_cases hz : s.size = 0
    · have hpos : ¬ (0 : Int) < (s.size : Int) := by omega
      clear hst hz
      go_enter Tryz.func32, Tryz.ntmps32
      go_wp2_with fail
      refine hC.out.mono ?_
      rintro e w1 ⟨⟨q, A, c, hA, hq7, rfl, ho, hqr⟩, hb1⟩
      cases r with
      | none =>
        clear hC hqr
        go_wp2
        go_ret2
        exact ⟨RsRes.no _ _ _, hb1⟩
      | some q1 =>
        have e1 := hqr q1 rfl
        subst e1
        have hV := ValidSync_any A q1.length c q1 w1 (by omega) (Rd.of_own ho)
        cases hp : syOk q1 with
        | true =>
          rw [hp] at hV
          have hV := hid hV
          have HE := hid (rsElse_T hp)
          clear hC hqr hp
          go_wp2_with fail
          refine hV.out.mono ?_
          rintro e w2 ⟨rfl, hb2⟩
          clear hV
          go_wp2
          go_ret2
          exact ⟨by rw [HE.out]; exact RsRes.mk hA (own_below ho hb2), (by repeat' (first | exact Below.refl _ _ | (with_reducible first | assumption | exact Nat.le_refl _ | refine Below.alloc ?_ ?_ _ | refine Below.setCell ?_ ?_ _ | refine Below.drew ?_ | refine below_drewN ?_ _) | refine Below.trans ?_ (Below.mono (by assumption) ?_) | exact Below.size (by assumption) | omega | go_size | (simp at *; omega)))⟩
        | false =>
          rw [hp] at hV
          have hV := hid hV
          have HE := hid (rsElse_T hp)
          clear hC hqr hp
          go_wp2_with fail
          refine hV.out.mono ?_
          rintro e w2 ⟨rfl, hb2⟩
          clear hV
          go_wp2
          go_ret2
          exact ⟨by rw [HE.out]; exact RsRes.no _ _ _, (by repeat' (first | exact Below.refl _ _ | (with_reducible first | assumption | exact Nat.le_refl _ | refine Below.alloc ?_ ?_ _ | refine Below.setCell ?_ ?_ _ | refine Below.drew ?_ | refine below_drewN ?_ _) | refine Below.trans ?_ (Below.mono (by assumption) ?_) | exact Below.size (by assumption) | omega | go_size | (simp at *; omega)))⟩
    · obtain ⟨n, hn⟩ : ∃ n, s.size = n + 1 := ⟨s.size - 1, by omega⟩
      have hni : n < s.size := by omega
      have h42 : s[n]'hni ≠ 42 := fun e => hst (by rw [tl_last hn, e])
      have hq : (((s[n]'hni).toNat : Int) == 42) = false := by rw [show (42 : Int) = ((42 : UInt8).toNat : Int) from rfl, u8_eq]; exact decide_eq_false h42
      have hnI : (n : Int) < (s.size : Int) := by omega
      have hpos : (0 : Int) < (s.size : Int) := by omega
      have hsz : IntKind.i64.wrap ((s.size : Int) - 1) = (n : Int) := by rw [show (s.size : Int) - 1 = (n : Int) by omega]; exact IntWalk.i64_in (n : Int) (by omega)
      clear hst hz h42 hn
      go_enter Tryz.func32, Tryz.ntmps32
      go_wp2_with fail
      refine hC.out.mono ?_
      rintro e w1 ⟨⟨q, A, c, hA, hq7, rfl, ho, hqr⟩, hb1⟩
      cases r with
      | none =>
        clear hC hqr
        go_wp2
        go_ret2
        exact ⟨RsRes.no _ _ _, hb1⟩
      | some q1 =>
        have e1 := hqr q1 rfl
        subst e1
        have hV := ValidSync_any A q1.length c q1 w1 (by omega) (Rd.of_own ho)
        cases hp : syOk q1 with
        | true =>
          rw [hp] at hV
          have hV := hid hV
          have HE := hid (rsElse_T hp)
          clear hC hqr hp
          go_wp2_with fail
          refine hV.out.mono ?_
          rintro e w2 ⟨rfl, hb2⟩
          clear hV
          go_wp2
          go_ret2
          exact ⟨by rw [HE.out]; exact RsRes.mk hA (own_below ho hb2), (by repeat' (first | exact Below.refl _ _ | (with_reducible first | assumption | exact Nat.le_refl _ | refine Below.alloc ?_ ?_ _ | refine Below.setCell ?_ ?_ _ | refine Below.drew ?_ | refine below_drewN ?_ _) | refine Below.trans ?_ (Below.mono (by assumption) ?_) | exact Below.size (by assumption) | omega | go_size | (simp at *; omega)))⟩
        | false =>
          rw [hp] at hV
          have hV := hid hV
          have HE := hid (rsElse_T hp)
          clear hC hqr hp
          go_wp2_with fail
          refine hV.out.mono ?_
          rintro e w2 ⟨rfl, hb2⟩
          clear hV
          go_wp2
          go_ret2
          exact ⟨by rw [HE.out]; exact RsRes.no _ _ _, (by repeat' (first | exact Below.refl _ _ | (with_reducible first | assumption | exact Nat.le_refl _ | refine Below.alloc ?_ ?_ _ | refine Below.setCell ?_ ?_ _ | refine Below.drew ?_ | refine below_drewN ?_ _) | refine Below.trans ?_ (Below.mono (by assumption) ?_) | exact Below.size (by assumption) | omega | go_size | (simp at *; omega)))⟩
set_option maxHeartbeats 1000000 in
theorem specReadSync_any (s : ByteArray) (w : World) (hs : s.size ≤ 1099511627775) :
    Calls Tryz.prog 80 #[.string s] w fun e w' => RsRes w.heap.size (rReadSync (tl s)) e w' ∧ Below w.heap.size w w' := by
  by_cases hst : (tl s).getLast? = some 42
  · obtain ⟨n, hn⟩ : ∃ n, s.size = n + 1 := ⟨s.size - 1, by
      have : s.size ≠ 0 := fun e => by rw [List.getLast?_eq_getElem?, List.getElem?_eq_none (by rw [tl_len]; omega)] at hst; cases hst
      omega⟩
    have h42 := hst
    rw [tl_last hn] at h42
    injection h42 with h42
    obtain ⟨sub, hsub⟩ : ∃ sub, s.extract 0 n = sub := ⟨_, rfl⟩
    have hsl : tl sub = (tl s).dropLast := by rw [← hsub]; exact tl_init hn
    have hC := l05Beats_any sub w (by rw [← hsub, ByteArray.size_extract]; omega)
    rw [hsl] at hC
    rw [rRead_star hst]
    generalize rdB (tl s).dropLast = r at *
    have hni : n < s.size := by omega
    have hnI : (n : Int) < (s.size : Int) := by omega
    have hn2 : (n : Int) ≤ (s.size : Int) := by omega
    have hpos : s.toList.isEmpty = false := by rw [tl_empty]; exact decide_eq_false (fun e => by have := tl_len s; rw [e] at this; simp at this; omega)
    have hsz : IntKind.i64.wrap ((s.size : Int) - 1) = (n : Int) := by rw [show (s.size : Int) - 1 = (n : Int) by omega]; exact IntWalk.i64_in (n : Int) (by omega)
    have hq : (((s[n]'hni).toNat : Int) == 42) = true := by rw [h42]; rfl
    have hC := hid hC
    clear hst hsl h42
    go_enter Tryz.func80, Tryz.ntmps80
    go_wp2_with fail
    refine hC.out.mono ?_
    rintro e w1 ⟨⟨q, A, c, hA, hq7, rfl, ho, hqr⟩, hb1⟩
    have HQ := hid hqr
    cases r with
    | none =>
      clear hC hqr
      go_wp2
      go_ret2
      exact ⟨RsRes.no _ _ _, hb1⟩
    | some q1 =>
      have e1 := hqr q1 rfl
      subst e1
      have hS := hid (specStarSync_any A q1.length c q1 w1 (by omega) hA (Rd.of_own ho))
      have HB := hid hb1
      clear hC HQ hqr
      go_wp2_with fail
      refine hS.out.mono ?_
      rintro e w2 ⟨⟨A2, c2, hA2, rfl, ho2⟩, hb2⟩
      clear hS
      go_wp2
      go_ret2
      exact ⟨RsRes.mk hA2 (own_more ho2 hb1.size), (by repeat' (first | exact Below.refl _ _ | (with_reducible first | assumption | exact Nat.le_refl _ | refine Below.alloc ?_ ?_ _ | refine Below.setCell ?_ ?_ _ | refine Below.drew ?_ | refine below_drewN ?_ _) | refine Below.trans ?_ (Below.mono (by assumption) ?_) | exact Below.size (by assumption) | omega | go_size | (simp at *; omega)))⟩
  · have hC := l05Beats_any s w (by omega)
    rw [rRead_else hst]
    generalize rdB (tl s) = r at *
    have hC := hid hC
    by_cases hz : s.size = 0
    · have hpos : s.toList.isEmpty = true := by rw [tl_empty]; exact decide_eq_true (List.eq_nil_of_length_eq_zero (by rw [tl_len]; exact hz))
      clear hst hz
      go_enter Tryz.func80, Tryz.ntmps80
      go_wp2_with fail
      refine hC.out.mono ?_
      rintro e w1 ⟨⟨q, A, c, hA, hq7, rfl, ho, hqr⟩, hb1⟩
      cases r with
      | none =>
        clear hC hqr
        go_wp2
        go_ret2
        exact ⟨RsRes.no _ _ _, hb1⟩
      | some q1 =>
        have e1 := hqr q1 rfl
        subst e1
        have hV := l05Ok_any A q1.length c q1 w1 (by omega) (Rd.of_own ho)
        cases hp : syOk q1 with
        | true =>
          rw [hp] at hV
          have hV := hid hV
          have HE := hid (rsElse_T hp)
          clear hC hqr hp
          go_wp2_with fail
          refine hV.out.mono ?_
          rintro e w2 ⟨rfl, hb2⟩
          clear hV
          go_wp2
          go_ret2
          exact ⟨by rw [HE.out]; exact RsRes.mk hA (own_below ho hb2), (by repeat' (first | exact Below.refl _ _ | (with_reducible first | assumption | exact Nat.le_refl _ | refine Below.alloc ?_ ?_ _ | refine Below.setCell ?_ ?_ _ | refine Below.drew ?_ | refine below_drewN ?_ _) | refine Below.trans ?_ (Below.mono (by assumption) ?_) | exact Below.size (by assumption) | omega | go_size | (simp at *; omega)))⟩
        | false =>
          rw [hp] at hV
          have hV := hid hV
          have HE := hid (rsElse_T hp)
          clear hC hqr hp
          go_wp2_with fail
          refine hV.out.mono ?_
          rintro e w2 ⟨rfl, hb2⟩
          clear hV
          go_wp2
          go_ret2
          exact ⟨by rw [HE.out]; exact RsRes.no _ _ _, (by repeat' (first | exact Below.refl _ _ | (with_reducible first | assumption | exact Nat.le_refl _ | refine Below.alloc ?_ ?_ _ | refine Below.setCell ?_ ?_ _ | refine Below.drew ?_ | refine below_drewN ?_ _) | refine Below.trans ?_ (Below.mono (by assumption) ?_) | exact Below.size (by assumption) | omega | go_size | (simp at *; omega)))⟩
    · obtain ⟨n, hn⟩ : ∃ n, s.size = n + 1 := ⟨s.size - 1, by omega⟩
      have hni : n < s.size := by omega
      have h42 : s[n]'hni ≠ 42 := fun e => hst (by rw [tl_last hn, e])
      have hq : (((s[n]'hni).toNat : Int) == 42) = false := by rw [show (42 : Int) = ((42 : UInt8).toNat : Int) from rfl, u8_eq]; exact decide_eq_false h42
      have hnI : (n : Int) < (s.size : Int) := by omega
      have hpos : s.toList.isEmpty = false := by rw [tl_empty]; exact decide_eq_false (fun e => by have := tl_len s; rw [e] at this; simp at this; omega)
      have hsz : IntKind.i64.wrap ((s.size : Int) - 1) = (n : Int) := by rw [show (s.size : Int) - 1 = (n : Int) by omega]; exact IntWalk.i64_in (n : Int) (by omega)
      clear hst hz h42 hn
      go_enter Tryz.func80, Tryz.ntmps80
      go_wp2_with fail
      refine hC.out.mono ?_
      rintro e w1 ⟨⟨q, A, c, hA, hq7, rfl, ho, hqr⟩, hb1⟩
      cases r with
      | none =>
        clear hC hqr
        go_wp2
        go_ret2
        exact ⟨RsRes.no _ _ _, hb1⟩
      | some q1 =>
        have e1 := hqr q1 rfl
        subst e1
        have hV := l05Ok_any A q1.length c q1 w1 (by omega) (Rd.of_own ho)
        cases hp : syOk q1 with
        | true =>
          rw [hp] at hV
          have hV := hid hV
          have HE := hid (rsElse_T hp)
          clear hC hqr hp
          go_wp2_with fail
          refine hV.out.mono ?_
          rintro e w2 ⟨rfl, hb2⟩
          clear hV
          go_wp2
          go_ret2
          exact ⟨by rw [HE.out]; exact RsRes.mk hA (own_below ho hb2), (by repeat' (first | exact Below.refl _ _ | (with_reducible first | assumption | exact Nat.le_refl _ | refine Below.alloc ?_ ?_ _ | refine Below.setCell ?_ ?_ _ | refine Below.drew ?_ | refine below_drewN ?_ _) | refine Below.trans ?_ (Below.mono (by assumption) ?_) | exact Below.size (by assumption) | omega | go_size | (simp at *; omega)))⟩
        | false =>
          rw [hp] at hV
          have hV := hid hV
          have HE := hid (rsElse_T hp)
          clear hC hqr hp
          go_wp2_with fail
          refine hV.out.mono ?_
          rintro e w2 ⟨rfl, hb2⟩
          clear hV
          go_wp2
          go_ret2
          exact ⟨by rw [HE.out]; exact RsRes.no _ _ _, (by repeat' (first | exact Below.refl _ _ | (with_reducible first | assumption | exact Nat.le_refl _ | refine Below.alloc ?_ ?_ _ | refine Below.setCell ?_ ?_ _ | refine Below.drew ?_ | refine below_drewN ?_ _) | refine Below.trans ?_ (Below.mono (by assumption) ?_) | exact Below.size (by assumption) | omega | go_size | (simp at *; omega)))⟩
end Go.Proofs.YtgphkfnobmponaaGreat

/- Contracts of ReadPassing, both. -/
namespace Go.Proofs.YtgphkfnobmponaaGreat
open Go.RowKit
set_option linter.unusedVariables false

theorem psElse_some {p : Psg} {b : Bool} (h : psOk p = b) : psElse (some p) = if b then (p, true) else (([], []), false) := by rw [← h]; rfl
set_option maxRecDepth 100000 in
set_option maxHeartbeats 4000000 in
theorem ReadPassing_any (s : ByteArray) (w : World) (hs : s.size ≤ 1099511627776) :
    Calls Tryz.prog 33 #[.string s] w fun e w' => PaRes w.heap.size (rReadPassing (tl s)) e w' ∧ Below w.heap.size w w' := by
  have hC := readForm_any s (w.alloc (Obj.cells #[.slice none 0 0, .slice none 0 0] 31)) hs
  have hX := Bx.new w 31 #[.slice none 0 0, .slice none 0 0]
  rw [rReadPassing]
  generalize rdPa (tl s) = r at *
  have hC := hid hC
  go_enter Tryz.func33, Tryz.ntmps33
  go_wp2_with fail
  refine hC.out.mono ?_
  rintro e w1 ⟨⟨⟨a, b⟩, ha9, hb9, ⟨A1, d1, A2, d2, hA1, hA2, rfl, ho1, ho2⟩, hr⟩, hb1⟩
  have hX1 := hX.below hb1 hX.lt
  have z1 := hb1.size
  have hgr : w.heap.size < w1.heap.size := by simp at z1; omega
  have hB1 : Below w.heap.size w w1 := (by repeat' (first | exact Below.refl _ _ | (with_reducible first | assumption | exact Nat.le_refl _ | refine Below.alloc ?_ ?_ _ | refine Below.setCell ?_ ?_ _ | refine Below.drew ?_ | refine below_drewN ?_ _) | refine Below.trans ?_ (Below.mono (by assumption) ?_) | exact Below.size (by assumption) | omega | go_size | (simp at *; omega)))
  have e0 := hX1.cell 0
  have e1 := hX1.cell 1
  have f0 := hX1.frozen 0
  have f1 := hX1.frozen 1
  replace e0 : w1.cell? ⟨w.heap.size, 0, none⟩ = some (.slice none 0 0) := e0
  replace e1 : w1.cell? ⟨w.heap.size, 1, none⟩ = some (.slice none 0 0) := e1
  simp only at ho1 ho2 ha9 hb9
  have hbs : (w.alloc (Obj.cells #[.slice none 0 0, .slice none 0 0] 31)).heap.size = w.heap.size + 1 := by simp
  rw [hbs] at ho1 ho2
  have HO1 := hid ho1
  have HO2 := hid ho2
  have HR := hid hr
  clear hC hX hb1 hX1 ho1 ho2 hr hbs z1
  cases r with
  | none =>
    go_wp2
    refine bodyPost_ret (v := .tuple #[.agg #[.slice none 0 0, .slice none 0 0], .bool false]) ?_ rfl ?_
    · simp (maxDischargeDepth := 8) [results, Tryz.results33, go_sem, *]
    exact ⟨PaRes.no _ _ _, (by repeat' (first | exact Below.refl _ _ | (with_reducible first | assumption | exact Nat.le_refl _ | refine Below.alloc ?_ ?_ _ | refine Below.setCell ?_ ?_ _ | refine Below.drew ?_ | refine below_drewN ?_ _) | refine Below.trans ?_ (Below.mono (by assumption) ?_) | exact Below.size (by assumption) | omega | go_size | (simp at *; omega)))⟩
  | some p1 =>
    have ep := HR.out p1 rfl
    subst ep
    obtain ⟨W, hW⟩ : ∃ W, w1.alloc (Obj.cells #[.slice A1 a.length d1, .slice A2 b.length d2] 31) = W := ⟨_, rfl⟩
    have hbW : Below w1.heap.size w1 W := by rw [← hW]; exact (by repeat' (first | exact Below.refl _ _ | (with_reducible first | assumption | exact Nat.le_refl _ | refine Below.alloc ?_ ?_ _ | refine Below.setCell ?_ ?_ _ | refine Below.drew ?_ | refine below_drewN ?_ _) | refine Below.trans ?_ (Below.mono (by assumption) ?_) | exact Below.size (by assumption) | omega | go_size | (simp at *; omega)))
    have hV := ValidPassing_any A1 A2 a.length d1 b.length d2 (a, b) W (by omega) (by omega) (((Rd.of_own HO1.out).below hbW (Nat.le_refl _)).more hbW.size) (((Rd.of_own HO2.out).below hbW (Nat.le_refl _)).more hbW.size)
    obtain ⟨pb, hpb⟩ : ∃ pb, psOk (a, b) = pb := ⟨_, rfl⟩
    rw [hpb] at hV
    rw [← hW] at hV
    have HE := hid (psElse_some hpb)
    have hV := hid hV
    clear HR hW hbW hpb
    go_wp2_with fail
    refine hV.out.mono ?_
    rintro e w2 ⟨rfl, hb2⟩
    have hB2 : Below w1.heap.size w1 w2 := (by repeat' (first | exact Below.refl _ _ | (with_reducible first | assumption | exact Nat.le_refl _ | refine Below.alloc ?_ ?_ _ | refine Below.setCell ?_ ?_ _ | refine Below.drew ?_ | refine below_drewN ?_ _) | refine Below.trans ?_ (Below.mono (by assumption) ?_) | exact Below.size (by assumption) | omega | go_size | (simp at *; omega)))
    have q0 := (hB2.cell (p := ⟨w.heap.size, 0, none⟩) hgr).trans e0
    have q1 := (hB2.cell (p := ⟨w.heap.size, 1, none⟩) hgr).trans e1
    have q2 := (hB2.frozen (p := ⟨w.heap.size, 0, none⟩) hgr).trans f0
    have q3 := (hB2.frozen (p := ⟨w.heap.size, 1, none⟩) hgr).trans f1
    have q4 : w2.cell? ⟨w1.heap.size, 0, none⟩ = some (.slice A1 a.length d1) := (hb2.cell (p := ⟨w1.heap.size, 0, none⟩) (by simp)).trans (by simp)
    have q5 : w2.cell? ⟨w1.heap.size, 1, none⟩ = some (.slice A2 b.length d2) := (hb2.cell (p := ⟨w1.heap.size, 1, none⟩) (by simp)).trans (by simp)
    clear hV hb2 e0 e1 f0 f1
    cases pb
    · go_wp2
      refine bodyPost_ret (v := .tuple #[.agg #[.slice none 0 0, .slice none 0 0], .bool false]) ?_ rfl ?_
      · simp (maxDischargeDepth := 8) [results, Tryz.results33, go_sem, *]
      exact ⟨by rw [HE.out]; exact PaRes.no _ _ _, (by repeat' (first | exact Below.refl _ _ | (with_reducible first | assumption | exact Nat.le_refl _ | refine Below.alloc ?_ ?_ _ | refine Below.setCell ?_ ?_ _ | refine Below.drew ?_ | refine below_drewN ?_ _) | refine Below.trans ?_ (Below.mono (by assumption) ?_) | exact Below.size (by assumption) | omega | go_size | (simp at *; omega)))⟩
    · go_wp2
      refine bodyPost_ret (v := .tuple #[.agg #[.slice A1 a.length d1, .slice A2 b.length d2], .bool true]) ?_ rfl ?_
      · simp (maxDischargeDepth := 8) [results, Tryz.results33, go_sem, *]
      refine ⟨?_, (by repeat' (first | exact Below.refl _ _ | (with_reducible first | assumption | exact Nat.le_refl _ | refine Below.alloc ?_ ?_ _ | refine Below.setCell ?_ ?_ _ | refine Below.drew ?_ | refine below_drewN ?_ _) | refine Below.trans ?_ (Below.mono (by assumption) ?_) | exact Below.size (by assumption) | omega | go_size | (simp at *; omega)))⟩
      rw [HE.out]
      exact PaRes.mk hA1 hA2 (own_more (own_set (own_set (own_below HO1.out hB2) (p := ⟨w.heap.size, 0, none⟩) (by show w.heap.size < _; omega) _) (p := ⟨w.heap.size, 1, none⟩) (by show w.heap.size < _; omega) _) (by omega)) (own_more (own_set (own_set (own_below HO2.out hB2) (p := ⟨w.heap.size, 0, none⟩) (by show w.heap.size < _; omega) _) (p := ⟨w.heap.size, 1, none⟩) (by show w.heap.size < _; omega) _) (by omega))
/-- The throw of a text, whatever its character. -/
def rdP0 : List UInt8 → Option PT
  | [c] => some (rDig (c.toNat : Int), false)
  | [c, x] => if x = 112 then some (rDig (c.toNat : Int), true) else none
  | _ => none
def rdPs0 : List (List UInt8) → Option (List PT)
  | [] => some []
  | x :: r => match rdP0 x, rdPs0 r with
    | some t, some q => some (t :: q)
    | _, _ => none
theorem rdP_raw (x : List UInt8) : rdP x = match rdP0 x with
    | some t => if 0 ≤ t.1 then some t else none
    | none => none := by
  match x with
  | [] => rfl
  | [c] => rfl
  | [c, y] =>
    show (if y = 112 then _ else none) = match (if y = 112 then some (rDig (c.toNat : Int), true) else none) with
      | some t => if 0 ≤ t.1 then some t else none
      | none => none
    by_cases h : y = 112
    · rw [if_pos h, if_pos h]
    · rw [if_neg h, if_neg h]
  | c :: y :: z :: r => rfl
theorem rdPs_raw : ∀ {L : List (List UInt8)} {q : List PT}, rdPs L = some q → rdPs0 L = some q := by
  intro L
  induction L with
  | nil => intro q h; exact h
  | cons x r ih =>
    intro q h
    unfold rdPs at h
    split at h
    · rename_i t q' h1 h2
      injection h with h; subst h
      rw [rdP_raw] at h1
      cases h3 : rdP0 x with
      | none => rw [h3] at h1; cases h1
      | some u =>
        rw [h3] at h1
        simp only at h1
        split at h1
        · injection h1 with h1; subst h1
          rw [rdPs0, h3, ih h2]
        · cases h1
    · cases h
theorem raw_rdPs : ∀ {L : List (List UInt8)} {q : List PT}, rdPs0 L = some q → ptsOk q = true → rdPs L = some q := by
  intro L
  induction L with
  | nil => intro q h _; exact h
  | cons x r ih =>
    intro q h hq
    unfold rdPs0 at h
    split at h
    · rename_i t q' h1 h2
      injection h with h; subst h
      rw [ptsOk, List.all_cons, Bool.and_eq_true] at hq
      have h3 := rdP_raw x
      rw [h1] at h3
      simp only at h3
      rw [if_pos (ptOk_iff.1 hq.1).1.1] at h3
      rw [rdPs, h3, ih h2 hq.2]
    · cases h
/-- The throws of a juggler's text, with their number. -/
def okJ (q : List PT) : Bool := ptsOk q && betweenB (q.length : Int) 1 8
def okOf : Option (List PT) → Option (List PT)
  | some q => if okJ q then some q else none
  | none => none
def rdJk (l : List UInt8) : Option (List PT) := okOf (rdPs0 (splitL 32 l))
theorem rdTwo_k (x y : List UInt8) : rdTwo (rdJ x) (rdJ y) = rdTwo (rdJk x) (rdJk y) := by
  have key : ∀ l : List UInt8, (∀ q, rdJk l = some q → rdJ l = some q) ∧ (∀ q, rdJ l = some q → okJ q = true → rdJk l = some q) := by
    intro l
    constructor
    · intro q h
      unfold rdJk okOf at h
      split at h
      · rename_i q' hq
        split at h
        · rename_i hk; injection h with h; subst h
          rw [okJ, Bool.and_eq_true] at hk
          exact raw_rdPs hq hk.1
        · cases h
      · cases h
    · intro q h hk
      rw [rdJk, rdPs_raw h]
      show (if okJ q then some q else none) = _
      rw [if_pos hk]
  have hsh : ∀ {a b : List PT}, psSh (a, b) = true → okJ a = true ∧ okJ b = true := by
    intro a b h
    obtain ⟨⟨h1, h8⟩, he, ha, hb⟩ := psSh_iff.1 h
    simp only at h1 h8 he ha hb
    rw [okJ, okJ, ha, hb, Bool.true_and, Bool.true_and, betweenB_iff, betweenB_iff]
    omega
  cases h1 : rdTwo (rdJ x) (rdJ y) with
  | some p =>
    obtain ⟨hs, ha, hb⟩ := rdTwo_sh h1
    obtain ⟨a, b⟩ := p
    obtain ⟨k1, k2⟩ := hsh hs
    rw [(key x).2 _ ha k1, (key y).2 _ hb k2]
    show _ = if psSh (a, b) then some (a, b) else none
    rw [if_pos hs]
  | none =>
    cases h2 : rdTwo (rdJk x) (rdJk y) with
    | none => rfl
    | some p =>
      obtain ⟨hs, ha, hb⟩ := rdTwo_sh h2
      obtain ⟨a, b⟩ := p
      rw [(key x).1 _ ha, (key y).1 _ hb] at h1
      have h1 : (if psSh (a, b) then some (a, b) else none) = none := h1
      rw [if_pos hs] at h1
      cases h1
/-- What is still to be read, behind what has been. -/
def pR0 (q : List PT) (ps : List (List UInt8)) : Option (List PT) := (rdPs0 ps).map (q ++ ·)
theorem pR0_bad {out : List PT} {x : List UInt8} {r : List (List UInt8)} {R : Option (List PT)} (h : pR0 out (x :: r) = R) (ho : rdP0 x = none) : R = none := by rw [← h, pR0, rdPs0, ho]; rfl
theorem pR0_more {out : List PT} {x : List UInt8} {r : List (List UInt8)} {R : Option (List PT)} {t : PT} (h : pR0 out (x :: r) = R) (ho : rdP0 x = some t) : pR0 (out ++ [t]) r = R := by
  rw [← h, pR0, pR0, rdPs0, ho]
  cases rdPs0 r with
  | none => rfl
  | some q => simp
theorem pR0_end {out : List PT} {R : Option (List PT)} (h : pR0 out [] = R) : R = some out := by rw [← h, pR0, rdPs0]; simp
theorem rdP0_one {l : List UInt8} {x : UInt8} (h : l = [x]) : rdP0 l = some (rDig (x.toNat : Int), false) := by subst h; rfl
theorem rdP0_two {l : List UInt8} {x : UInt8} (h : l = [x, 112]) : rdP0 l = some (rDig (x.toNat : Int), true) := by subst h; rfl
theorem rdP0_else {l : List UInt8} (h1 : ∀ x, l ≠ [x]) (h2 : ∀ x, l ≠ [x, 112]) : rdP0 l = none := by
  unfold rdP0
  split
  · rename_i c; exact absurd rfl (h1 c)
  · rename_i c x
    by_cases hx : x = 112
    · subst hx; exact absurd rfl (h2 c)
    · rw [if_neg hx]
  · rfl
theorem Rd.str_atp {w : World} {B n i : Nat} {A : Option Addr} {L : List ByteArray} (h : Rd w B 1 A n (strs L)) (hi : i < n) :
    ∃ b off x, A = some ⟨b, off, none⟩ ∧ b < B ∧ L[i]? = some x ∧ w.cell? ⟨b, off + i, none⟩ = some (.string x) := by
  have hl : L.length = n := by have := h.1; simp [strs] at this; omega
  obtain ⟨b, off, e, hb, hc⟩ := h.2 (by omega)
  obtain ⟨x, hx⟩ : ∃ x, L[i]? = some x := ⟨_, List.getElem?_eq_getElem (by omega)⟩
  exact ⟨b, off, x, e, hb, hx, hc _ _ (by simp [strs, hx])⟩
/-- Throws that are read, of the call's own, and whether they are such. -/
def RtRes (B : Nat) (r : Option (List PT)) (e : Ending) (w : World) : Prop := ∃ (q : List PT) (A : Option Addr) (c : Nat), (A = none → c = 0) ∧ q.length ≤ 1099511627776 ∧ e = .returned (.tuple #[.slice A q.length c, .bool r.isSome]) ∧ w.ownsRow B 83 2 (.slice A q.length c) q.length (ths q) ∧ ∀ q', r = some q' → q' = q
theorem RtRes.no (B : Nat) (w : World) : RtRes B none (.returned (.tuple #[.slice none 0 0, .bool false])) w := ⟨[], none, 0, fun _ => rfl, by simp, rfl, World.ownsRow_nil _ _ _ _, fun q h => by cases h⟩
theorem RtRes.mk {B : Nat} {w : World} {v : Value} {q : List PT} {r : Option (List PT)} {b : Bool} (hq : q.length ≤ 1099511627776) (h : w.ownsRow B 83 2 v q.length (ths q)) (hb : r.isSome = b) (hr : ∀ q', r = some q' → q' = q) : RtRes B r (.returned (.tuple #[v, .bool b])) w := by
  obtain ⟨A, c, rfl, hA⟩ := own_formA h
  exact ⟨q, A, c, hA, hq, by rw [hb], h, hr⟩
end Go.Proofs.YtgphkfnobmponaaGreat
