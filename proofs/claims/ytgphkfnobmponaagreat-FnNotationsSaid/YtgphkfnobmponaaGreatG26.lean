/- Several texts in one: Yz, Vb, Wq. -/
import Derived.Test.YtgphkfnobmponaaGreatYy
import Derived.Test.YtgphkfnobmponaaGreatG21
import Derived.Test.YtgphkfnobmponaaGreatG10
import Derived.Test.YtgphkfnobmponaaGreatG11
import Derived.Test.YtgphkfnobmponaaGreatG17
import Derived.Test.YtgphkfnobmponaaGreatG15
import Derived.Test.YtgphkfnobmponaaGreatYx
import Derived.Test.YtgphkfnobmponaaGreatQs
/- Contracts of the functions that read texts of synchronous patterns: throws. -/
namespace Go.Proofs.YtgphkfnobmponaaGreat
open Go.RowKit
set_option linter.unusedVariables false

/-- A throw that is read, and whether it is one. -/
def ThrRes (r : Option Thr) (e : Ending) : Prop := ∃ t : Thr, e = .returned (.tuple #[.agg #[.int .i64 t.1, .bool t.2], .bool r.isSome]) ∧ ∀ t', r = some t' → t' = t
theorem ThrRes.no {t : Thr} : ThrRes none (.returned (.tuple #[.agg #[.int .i64 t.1, .bool t.2], .bool false])) := ⟨t, rfl, fun t' h => by cases h⟩
theorem rdT_one {l : List UInt8} {x : UInt8} (h : l = [x]) {b : Bool} (hb : thrOk (rDig (x.toNat : Int), false) = b) : ThrRes (rdT l) (.returned (.tuple #[.agg #[.int .i64 (rDig (x.toNat : Int)), .bool false], .bool b])) := by
  subst h
  show ThrRes (if thrOk (rDig (x.toNat : Int), false) then some (rDig (x.toNat : Int), false) else none) _
  rw [hb]
  cases b
  · exact ThrRes.no (t := (rDig (x.toNat : Int), false))
  · exact ⟨_, rfl, fun t' h => by injection h with h; exact h.symm⟩
theorem rdT_two {l : List UInt8} {x : UInt8} (h : l = [x, 120]) {b : Bool} (hb : thrOk (rDig (x.toNat : Int), true) = b) : ThrRes (rdT l) (.returned (.tuple #[.agg #[.int .i64 (rDig (x.toNat : Int)), .bool true], .bool b])) := by
  subst h
  show ThrRes (if (120 : UInt8) = 120 then (if thrOk (rDig (x.toNat : Int), true) then some (rDig (x.toNat : Int), true) else none) else none) _
  rw [if_pos rfl, hb]
  cases b
  · exact ThrRes.no (t := (rDig (x.toNat : Int), true))
  · exact ⟨_, rfl, fun t' h => by injection h with h; exact h.symm⟩
theorem rdT_else {l : List UInt8} (h1 : ∀ x, l ≠ [x]) (h2 : ∀ x, l ≠ [x, 120]) : rdT l = none := by
  unfold rdT
  split
  · rename_i c; exact absurd rfl (h1 c)
  · rename_i c x
    by_cases hx : x = 120
    · subst hx; exact absurd rfl (h2 c)
    · rw [if_neg hx]
  · rfl
set_option maxHeartbeats 1000000 in
theorem readThr_any (s : ByteArray) (w : World) (hs : s.size ≤ 1099511627776) :
    Calls Tryz.prog 105 #[.string s] w fun e w' => ThrRes (rdT (tl s)) e ∧ Below w.heap.size w w' := by
  by_cases h2 : s.size = 2
  · have hx := tl_two h2
    have hq : ((s.size : Int) == 2) = true := by simp; omega
    have hi : (1 : Int) < (s.size : Int) := by omega
    have hi2 : (1 : Int) ≤ (s.size : Int) := by omega
    by_cases hx1 : s[1]'(by omega) = 120
    · rw [hx1] at hx
      have hq2 : (((s[1]'(by omega)).toNat : Int) == 120) = true := by rw [hx1]; rfl
      obtain ⟨sub, hsub⟩ : ∃ sub, s.extract 0 1 = sub := ⟨_, rfl⟩
      have hsz : sub.size = 1 := by rw [← hsub, ByteArray.size_extract]; omega
      have hs0 := one_first hx hsub hsz
      obtain ⟨x, hxx⟩ : ∃ x, s[0]'(by omega) = x := ⟨_, rfl⟩
      rw [hxx] at hx hs0
      have hT := hid (fun w1 => isSyncThrow_any (rDig (x.toNat : Int)) true w1)
      obtain ⟨tb, htb⟩ : ∃ tb, thrOk (rDig (x.toNat : Int), true) = tb := ⟨_, rfl⟩
      have HR := hid (rdT_two hx htb)
      rw [htb] at hT
      have hH := hid (fun w1 => hexOf_any (x.toNat : Int) (by omega) (by have := x.toNat_lt; omega) w1)
      generalize rDig (x.toNat : Int) = d at *
      clear hx htb hx1 hxx
      go_enter Tryz.func105, Tryz.ntmps105
      go_wp2_with (go_at_call 35; refine (hH.out _).mono ?_; rintro e w' ⟨rfl, rfl⟩)
      go_region_held3 (fun w' => w'.cell? ⟨w.heap.size + 1, 0, none⟩ = some (.int .i64 d) ∧ w'.cell? ⟨w.heap.size + 1, 1, none⟩ = some (.bool true)) (go_keep) ((go_at_call 136; refine (hT.out _).mono ?_; rintro e w5 ⟨rfl, hb5⟩; have hcl := (fun o => hb5.cell (p := ⟨w.heap.size, o, none⟩) (by first | (simp; done) | (simp; omega))); have hfl := (fun o => hb5.frozen (p := ⟨w.heap.size, o, none⟩) (by first | (simp; done) | (simp; omega))); have hcl2 := (fun o => hb5.cell (p := ⟨w.heap.size + 1, o, none⟩) (by first | (simp; done) | (simp; omega)))))
      all_goals
        go_wp2
        refine bodyPost_ret (v := .tuple #[.agg #[.int .i64 d, .bool true], .bool tb]) ?_ rfl ⟨HR.out, ?_⟩
        · simp (maxDischargeDepth := 8) [results, Tryz.results105, go_sem, *]
        · exact (by repeat' (first | exact Below.refl _ _ | (with_reducible first | assumption | exact Nat.le_refl _ | refine Below.alloc ?_ ?_ _ | refine Below.setCell ?_ ?_ _ | refine Below.drew ?_ | refine below_drewN ?_ _) | refine Below.trans ?_ (Below.mono (by assumption) ?_) | exact Below.size (by assumption) | omega | go_size | (simp at *; omega)))
    · have hq2 : (((s[1]'(by omega)).toNat : Int) == 120) = false := by
        simp only [beq_eq_false_iff_ne, ne_eq]
        intro e
        exact hx1 (UInt8.toNat_inj.1 (by have e : (s[1]'(by omega)).toNat = 120 := by omega
                                         rw [e]; rfl))
      have hq3 : ((s.size : Int) != 1) = true := by simp; omega
      have HR : Hid (rdT (tl s) = none) := rdT_else (fun x h => by rw [hx] at h; cases h) (fun x h => by rw [hx] at h; injection h with _ h; injection h with h _; exact hx1 h)
      clear hx hx1
      go_enter Tryz.func105, Tryz.ntmps105
      go_wp2
      refine bodyPost_ret (v := .tuple #[.agg #[.int .i64 0, .bool false], .bool false]) ?_ rfl ⟨by rw [HR.out]; exact ThrRes.no (t := (0, false)), ?_⟩
      · simp (maxDischargeDepth := 8) [results, Tryz.results105, go_sem, *]
      · exact (by repeat' (first | exact Below.refl _ _ | (with_reducible first | assumption | exact Nat.le_refl _ | refine Below.alloc ?_ ?_ _ | refine Below.setCell ?_ ?_ _ | refine Below.drew ?_ | refine below_drewN ?_ _) | refine Below.trans ?_ (Below.mono (by assumption) ?_) | exact Below.size (by assumption) | omega | go_size | (simp at *; omega)))
  · have hq : ((s.size : Int) == 2) = false := by simp; omega
    by_cases h1 : s.size = 1
    · have hx := tl_one h1
      have hq3 : ((s.size : Int) != 1) = false := by simp; omega
      have hi : (0 : Int) < (s.size : Int) := by omega
      obtain ⟨x, hxx⟩ : ∃ x, s[0]'(by omega) = x := ⟨_, rfl⟩
      rw [hxx] at hx
      have hT := hid (fun w1 => isSyncThrow_any (rDig (x.toNat : Int)) false w1)
      obtain ⟨tb, htb⟩ : ∃ tb, thrOk (rDig (x.toNat : Int), false) = tb := ⟨_, rfl⟩
      have HR := hid (rdT_one hx htb)
      rw [htb] at hT
      have hH := hid (fun w1 => hexOf_any (x.toNat : Int) (by omega) (by have := x.toNat_lt; omega) w1)
      generalize rDig (x.toNat : Int) = d at *
      clear hx htb h2
      go_enter Tryz.func105, Tryz.ntmps105
      go_wp2_with (go_at_call 35; refine (hH.out _).mono ?_; rintro e w' ⟨rfl, rfl⟩)
      go_region_held3 (fun w' => w'.cell? ⟨w.heap.size + 1, 0, none⟩ = some (.int .i64 d) ∧ w'.cell? ⟨w.heap.size + 1, 1, none⟩ = some (.bool false)) (go_keep) ((go_at_call 136; refine (hT.out _).mono ?_; rintro e w5 ⟨rfl, hb5⟩; have hcl := (fun o => hb5.cell (p := ⟨w.heap.size, o, none⟩) (by first | (simp; done) | (simp; omega))); have hfl := (fun o => hb5.frozen (p := ⟨w.heap.size, o, none⟩) (by first | (simp; done) | (simp; omega))); have hcl2 := (fun o => hb5.cell (p := ⟨w.heap.size + 1, o, none⟩) (by first | (simp; done) | (simp; omega)))))
      all_goals
        go_wp2
        refine bodyPost_ret (v := .tuple #[.agg #[.int .i64 d, .bool false], .bool tb]) ?_ rfl ⟨HR.out, ?_⟩
        · simp (maxDischargeDepth := 8) [results, Tryz.results105, go_sem, *]
        · exact (by repeat' (first | exact Below.refl _ _ | (with_reducible first | assumption | exact Nat.le_refl _ | refine Below.alloc ?_ ?_ _ | refine Below.setCell ?_ ?_ _ | refine Below.drew ?_ | refine below_drewN ?_ _) | refine Below.trans ?_ (Below.mono (by assumption) ?_) | exact Below.size (by assumption) | omega | go_size | (simp at *; omega)))
    · have hq3 : ((s.size : Int) != 1) = true := by simp; omega
      have hll := tl_len s
      have HR : Hid (rdT (tl s) = none) := rdT_else (fun x h => by rw [h] at hll; simp at hll; omega) (fun x h => by rw [h] at hll; simp at hll; omega)
      clear h1 h2 hll
      go_enter Tryz.func105, Tryz.ntmps105
      go_wp2
      refine bodyPost_ret (v := .tuple #[.agg #[.int .i64 0, .bool false], .bool false]) ?_ rfl ⟨by rw [HR.out]; exact ThrRes.no (t := (0, false)), ?_⟩
      · simp (maxDischargeDepth := 8) [results, Tryz.results105, go_sem, *]
      · exact (by repeat' (first | exact Below.refl _ _ | (with_reducible first | assumption | exact Nat.le_refl _ | refine Below.alloc ?_ ?_ _ | refine Below.setCell ?_ ?_ _ | refine Below.drew ?_ | refine below_drewN ?_ _) | refine Below.trans ?_ (Below.mono (by assumption) ?_) | exact Below.size (by assumption) | omega | go_size | (simp at *; omega)))
set_option maxHeartbeats 1000000 in
theorem l05Read_any (s : ByteArray) (w : World) (hs : s.size ≤ 1099511627776) :
    Calls Tryz.prog 112 #[.string s] w fun e w' => ThrRes (rdT (tl s)) e ∧ Below w.heap.size w w' := by
  have hemp := tl_empty (s := s)
  by_cases h2 : s.size = 2
  · have hx := tl_two h2
    have he : s.toList.isEmpty = false := by rw [hemp, hx]; rfl
    have hq : ((s.size : Int) == 2) = true := by simp; omega
    have hi : (1 : Int) < (s.size : Int) := by omega
    have hi2 : (0 : Int) < (s.size : Int) := by omega
    have hi3 : ¬ (2 : Int) < (s.size : Int) := by omega
    by_cases hx1 : s[1]'(by omega) = 120
    · rw [hx1] at hx
      have hq2 : (((s[1]'(by omega)).toNat : Int) != 120) = false := by rw [hx1]; rfl
      obtain ⟨x, hxx⟩ : ∃ x, s[0]'(by omega) = x := ⟨_, rfl⟩
      rw [hxx] at hx
      have hT := hid (fun w1 => l05Throw_any (rDig (x.toNat : Int)) true w1)
      obtain ⟨tb, htb⟩ : ∃ tb, thrOk (rDig (x.toNat : Int), true) = tb := ⟨_, rfl⟩
      have HR := hid (rdT_two hx htb)
      rw [htb] at hT
      have hH := hid (fun w1 => l04Value_any (x.toNat : Int) (by omega) (by have := x.toNat_lt; omega) w1)
      generalize rDig (x.toNat : Int) = d at *
      clear hx htb hx1 hemp
      go_enter Tryz.func112, Tryz.ntmps112
      go_wp2_with (go_at_call 72; refine (hH.out _).mono ?_; rintro e w' ⟨rfl, rfl⟩)
      go_region_held3 (fun w' => w'.cell? ⟨w.heap.size + 1, 0, none⟩ = some (.int .i64 d) ∧ w'.cell? ⟨w.heap.size + 1, 1, none⟩ = some (.bool true)) (go_keep) ((go_at_call 137; refine (hT.out _).mono ?_; rintro e w5 ⟨rfl, hb5⟩; have hcl := (fun o => hb5.cell (p := ⟨w.heap.size, o, none⟩) (by first | (simp; done) | (simp; omega))); have hfl := (fun o => hb5.frozen (p := ⟨w.heap.size, o, none⟩) (by first | (simp; done) | (simp; omega))); have hcl2 := (fun o => hb5.cell (p := ⟨w.heap.size + 1, o, none⟩) (by first | (simp; done) | (simp; omega)))))
      all_goals
        go_wp2
        refine bodyPost_ret (v := .tuple #[.agg #[.int .i64 d, .bool true], .bool tb]) ?_ rfl ⟨HR.out, ?_⟩
        · simp (maxDischargeDepth := 8) [results, Tryz.results112, go_sem, *]
        · exact (by repeat' (first | exact Below.refl _ _ | (with_reducible first | assumption | exact Nat.le_refl _ | refine Below.alloc ?_ ?_ _ | refine Below.setCell ?_ ?_ _ | refine Below.drew ?_ | refine below_drewN ?_ _) | refine Below.trans ?_ (Below.mono (by assumption) ?_) | exact Below.size (by assumption) | omega | go_size | (simp at *; omega)))
    · have hq2 : (((s[1]'(by omega)).toNat : Int) != 120) = true := by
        simp only [bne_iff_ne, ne_eq]
        intro e
        exact hx1 (UInt8.toNat_inj.1 (by have e : (s[1]'(by omega)).toNat = 120 := by omega
                                         rw [e]; rfl))
      have HR : Hid (rdT (tl s) = none) := rdT_else (fun x h => by rw [hx] at h; cases h) (fun x h => by rw [hx] at h; injection h with _ h; injection h with h _; exact hx1 h)
      clear hx hx1 hemp
      go_enter Tryz.func112, Tryz.ntmps112
      go_wp2
      refine bodyPost_ret (v := .tuple #[.agg #[.int .i64 0, .bool false], .bool false]) ?_ rfl ⟨by rw [HR.out]; exact ThrRes.no (t := (0, false)), ?_⟩
      · simp (maxDischargeDepth := 8) [results, Tryz.results112, go_sem, *]
      · exact (by repeat' (first | exact Below.refl _ _ | (with_reducible first | assumption | exact Nat.le_refl _ | refine Below.alloc ?_ ?_ _ | refine Below.setCell ?_ ?_ _ | refine Below.drew ?_ | refine below_drewN ?_ _) | refine Below.trans ?_ (Below.mono (by assumption) ?_) | exact Below.size (by assumption) | omega | go_size | (simp at *; omega)))
  · have hq : ((s.size : Int) == 2) = false := by simp; omega
    by_cases h1 : s.size = 1
    · have hx := tl_one h1
      have he : s.toList.isEmpty = false := by rw [hemp, hx]; rfl
      have hi : (0 : Int) < (s.size : Int) := by omega
      have hi3 : ¬ (2 : Int) < (s.size : Int) := by omega
      obtain ⟨x, hxx⟩ : ∃ x, s[0]'(by omega) = x := ⟨_, rfl⟩
      rw [hxx] at hx
      have hT := hid (fun w1 => l05Throw_any (rDig (x.toNat : Int)) false w1)
      obtain ⟨tb, htb⟩ : ∃ tb, thrOk (rDig (x.toNat : Int), false) = tb := ⟨_, rfl⟩
      have HR := hid (rdT_one hx htb)
      rw [htb] at hT
      have hH := hid (fun w1 => l04Value_any (x.toNat : Int) (by omega) (by have := x.toNat_lt; omega) w1)
      generalize rDig (x.toNat : Int) = d at *
      clear hx htb hemp h2
      go_enter Tryz.func112, Tryz.ntmps112
      go_wp2_with (go_at_call 72; refine (hH.out _).mono ?_; rintro e w' ⟨rfl, rfl⟩)
      go_region_held3 (fun w' => w'.cell? ⟨w.heap.size + 1, 0, none⟩ = some (.int .i64 d) ∧ w'.cell? ⟨w.heap.size + 1, 1, none⟩ = some (.bool false)) (go_keep) ((go_at_call 137; refine (hT.out _).mono ?_; rintro e w5 ⟨rfl, hb5⟩; have hcl := (fun o => hb5.cell (p := ⟨w.heap.size, o, none⟩) (by first | (simp; done) | (simp; omega))); have hfl := (fun o => hb5.frozen (p := ⟨w.heap.size, o, none⟩) (by first | (simp; done) | (simp; omega))); have hcl2 := (fun o => hb5.cell (p := ⟨w.heap.size + 1, o, none⟩) (by first | (simp; done) | (simp; omega)))))
      all_goals
        go_wp2
        refine bodyPost_ret (v := .tuple #[.agg #[.int .i64 d, .bool false], .bool tb]) ?_ rfl ⟨HR.out, ?_⟩
        · simp (maxDischargeDepth := 8) [results, Tryz.results112, go_sem, *]
        · exact (by repeat' (first | exact Below.refl _ _ | (with_reducible first | assumption | exact Nat.le_refl _ | refine Below.alloc ?_ ?_ _ | refine Below.setCell ?_ ?_ _ | refine Below.drew ?_ | refine below_drewN ?_ _) | refine Below.trans ?_ (Below.mono (by assumption) ?_) | exact Below.size (by assumption) | omega | go_size | (simp at *; omega)))
    · have hll := tl_len s
      have HR : Hid (rdT (tl s) = none) := rdT_else (fun x h => by rw [h] at hll; simp at hll; omega) (fun x h => by rw [h] at hll; simp at hll; omega)
      by_cases h0 : s.size = 0
      · have he : s.toList.isEmpty = true := by rw [hemp]; exact decide_eq_true (List.eq_nil_of_length_eq_zero (by omega))
        clear h1 h2 hll hemp h0
        go_enter Tryz.func112, Tryz.ntmps112
        go_wp2
        refine bodyPost_ret (v := .tuple #[.agg #[.int .i64 0, .bool false], .bool false]) ?_ rfl ⟨by rw [HR.out]; exact ThrRes.no (t := (0, false)), ?_⟩
        · simp (maxDischargeDepth := 8) [results, Tryz.results112, go_sem, *]
        · exact (by repeat' (first | exact Below.refl _ _ | (with_reducible first | assumption | exact Nat.le_refl _ | refine Below.alloc ?_ ?_ _ | refine Below.setCell ?_ ?_ _ | refine Below.drew ?_ | refine below_drewN ?_ _) | refine Below.trans ?_ (Below.mono (by assumption) ?_) | exact Below.size (by assumption) | omega | go_size | (simp at *; omega)))
      · have he : s.toList.isEmpty = false := by rw [hemp]; exact decide_eq_false (fun e => h0 (by rw [← hll, e]; rfl))
        have hi3 : (2 : Int) < (s.size : Int) := by omega
        clear h1 h2 hll hemp h0
        go_enter Tryz.func112, Tryz.ntmps112
        go_wp2
        refine bodyPost_ret (v := .tuple #[.agg #[.int .i64 0, .bool false], .bool false]) ?_ rfl ⟨by rw [HR.out]; exact ThrRes.no (t := (0, false)), ?_⟩
        · simp (maxDischargeDepth := 8) [results, Tryz.results112, go_sem, *]
        · exact (by repeat' (first | exact Below.refl _ _ | (with_reducible first | assumption | exact Nat.le_refl _ | refine Below.alloc ?_ ?_ _ | refine Below.setCell ?_ ?_ _ | refine Below.drew ?_ | refine below_drewN ?_ _) | refine Below.trans ?_ (Below.mono (by assumption) ?_) | exact Below.size (by assumption) | omega | go_size | (simp at *; omega)))
end Go.Proofs.YtgphkfnobmponaaGreat

/- Contract of the reference's comparison of notations, where both read as the same. -/
namespace Go.Proofs.YtgphkfnobmponaaGreat
open Go.RowKit
set_option linter.unusedVariables false

theorem same_true {α : Type} [DecidableEq α] {x : α} {e : Ending} {w w' : World} {B : Nat} (h : e = .returned (.bool (decide (x = x))) ∧ Below B w w') : e = .returned (.bool true) ∧ Below B w w' := ⟨by rw [h.1, decide_eq_true rfl], h.2⟩
set_option maxRecDepth 100000 in
set_option maxHeartbeats 2000000 in
theorem SameNotation_same (k : Int) (p : List Int) (m : List (List Int)) (y : List Beat) (q1 q2 : List PT) (s t : Six) (w : World) (hs : NtSm (k, p, m, y, (q1, q2))) (h : NtRd (k, p, m, y, (q1, q2)) s w) (h' : NtRd (k, p, m, y, (q1, q2)) t w) :
    Calls Tryz.prog 17 #[.agg #[.int .i64 k, .slice s.A p.length s.c, .slice s.A2 m.length s.c2, .slice s.A3 y.length s.c3, .slice s.A4 q1.length s.c4, .slice s.A5 q2.length s.c5], .agg #[.int .i64 k, .slice t.A p.length t.c, .slice t.A2 m.length t.c2, .slice t.A3 y.length t.c3, .slice t.A4 q1.length t.c4, .slice t.A5 q2.length t.c5]] w fun e w' => e = .returned (.bool true) ∧ Below w.heap.size w w' := by
  obtain ⟨A, c, A2, c2, A3, c3, A4, c4, A5, c5⟩ := s
  obtain ⟨D, d, D2, d2, D3, d3, D4, d4, D5, d5⟩ := t
  obtain ⟨l1, ⟨l2, l3, _⟩, l4, l5, l6⟩ := hs
  simp only at l1 l2 l3 l4 l5 l6 ⊢
  have H := fun (w1 : World) (b : Below w.heap.size w w1) => h.below b
  have H' := fun (w1 : World) (b : Below w.heap.size w w1) => h'.below b
  unfold NtRd at H H'
  simp only at H H'
  have C1 := hid (fun (w1 : World) (b : Below w.heap.size w w1) => (l00Same_any A D p.length p.length c d p p w1 (by omega) (by omega) (H w1 b).1 (H' w1 b).1).mono fun _ _ => same_true)
  have C2 := hid (fun (w1 : World) (b : Below w.heap.size w w1) => (specSameMulti_any A2 D2 m.length m.length c2 d2 m m w1 (by omega) (by omega) (fun r hr => by have := l3 r hr; omega) (fun r hr => by have := l3 r hr; omega) (H w1 b).2.1 (H' w1 b).2.1).mono fun _ _ => same_true)
  have C3 := hid (fun (w1 : World) (b : Below w.heap.size w w1) => (specSameSync_any A3 D3 y.length y.length c3 d3 y y w1 (by omega) (by omega) (H w1 b).2.2.1 (H' w1 b).2.2.1).mono fun _ _ => same_true)
  have C4 := hid (fun (w1 : World) (b : Below w.heap.size w w1) => (specSamePassing_any A4 A5 D4 D5 q1.length c4 q2.length c5 q1.length d4 q2.length d5 (q1, q2) (q1, q2) w1 (by omega) (by omega) (by omega) (by omega) (H w1 b).2.2.2.1 (H w1 b).2.2.2.2 (H' w1 b).2.2.2.1 (H' w1 b).2.2.2.2).mono fun _ _ => same_true)
  generalize hCS : (#[.int .i64 k, .slice A p.length c, .slice A2 m.length c2, .slice A3 y.length c3, .slice A4 q1.length c4, .slice A5 q2.length c5] : Array Value) = CS
  generalize hDS : (#[.int .i64 k, .slice D p.length d, .slice D2 m.length d2, .slice D3 y.length d3, .slice D4 q1.length d4, .slice D5 q2.length d5] : Array Value) = DS
  have hX := (Bx.new w 33 CS).alloc (Obj.cells DS 33)
  have hY := Bx.new (w.alloc (Obj.cells CS 33)) 33 DS
  have hz : (w.alloc (Obj.cells CS 33)).heap.size = w.heap.size + 1 := by simp
  have hz2 : ((w.alloc (Obj.cells CS 33)).alloc (Obj.cells DS 33)).heap.size = w.heap.size + 2 := by simp
  rw [hz] at hY
  have hB0 : Below w.heap.size w ((w.alloc (Obj.cells CS 33)).alloc (Obj.cells DS 33)) := Below.alloc (Below.alloc (Below.refl _ _) (Nat.le_refl _) _) (by rw [hz]; omega) _
  subst hCS hDS
  have D1 := hid (C1.out _ hB0)
  have HX := hid (fun (w1 : World) (b : Below (w.heap.size + 2) ((w.alloc (Obj.cells #[.int .i64 k, .slice A p.length c, .slice A2 m.length c2, .slice A3 y.length c3, .slice A4 q1.length c4, .slice A5 q2.length c5] 33)).alloc (Obj.cells #[.int .i64 k, .slice D p.length d, .slice D2 m.length d2, .slice D3 y.length d3, .slice D4 q1.length d4, .slice D5 q2.length d5] 33)) w1) => (zc (hX.below b (by omega))).1)
  have HY := hid (fun (w1 : World) (b : Below (w.heap.size + 2) ((w.alloc (Obj.cells #[.int .i64 k, .slice A p.length c, .slice A2 m.length c2, .slice A3 y.length c3, .slice A4 q1.length c4, .slice A5 q2.length c5] 33)).alloc (Obj.cells #[.int .i64 k, .slice D p.length d, .slice D2 m.length d2, .slice D3 y.length d3, .slice D4 q1.length d4, .slice D5 q2.length d5] 33)) w1) => (zc (hY.below b (by omega))).1)
  have HZ := hid hz2
  have HB := hid hB0
  clear hX hY hz hz2 hB0 H H' h h' C1
  go_enter Tryz.func17, Tryz.ntmps17
  go_wp2_with fail
  refine D1.out.mono ?_
  rintro e w1 ⟨rfl, hb1⟩
  have hB1 := bchain HB.out hb1
  have hW1 := hb1
  rw [HZ.out] at hW1
  obtain ⟨-, -, a2, -, -, -⟩ := HX.out w1 hW1
  obtain ⟨-, -, b2, -, -, -⟩ := HY.out w1 hW1
  have z1 := hW1.size
  rw [HZ.out] at z1
  have HW1 := hid hW1
  clear D1 hb1 hW1
  go_wp2_with fail
  refine (C2.out w1 hB1).mono ?_
  rintro e w2 ⟨rfl, hb2⟩
  have hB2 := bchain hB1 hb2
  have hW2 := HW1.out.trans (hb2.mono z1)
  obtain ⟨-, -, -, a3, -, -⟩ := HX.out w2 hW2
  obtain ⟨-, -, -, b3, -, -⟩ := HY.out w2 hW2
  have z2 : w.heap.size + 2 ≤ w2.heap.size := Nat.le_trans z1 hb2.size
  have HW2 := hid hW2
  clear C2 hb2 hW2 a2 b2 HW1
  go_wp2_with fail
  refine (C3.out w2 hB2).mono ?_
  rintro e w3 ⟨rfl, hb3⟩
  have hB3 := bchain hB2 hb3
  have hW3 := HW2.out.trans (hb3.mono z2)
  obtain ⟨-, -, -, -, a4, a5⟩ := HX.out w3 hW3
  obtain ⟨-, -, -, -, b4, b5⟩ := HY.out w3 hW3
  clear C3 hb3 hW3 a3 b3 HW2 HX HY HB HZ
  go_wp2_with fail
  refine (C4.out w3 hB3).mono ?_
  rintro e w4 ⟨rfl, hb4⟩
  have hB4 := bchain hB3 hb4
  clear C4 hb4 a4 a5 b4 b5
  go_wp2
  go_ret
  exact ⟨rfl, hB4⟩
end Go.Proofs.YtgphkfnobmponaaGreat

/- Plain: a notation is read back from its text; a text has no fault just if it is one of a notation. -/
namespace Go.Proofs.YtgphkfnobmponaaGreat
open Go.RowKit
set_option linter.unusedVariables false

theorem badF_all {k : Nat} : ∀ {l : List UInt8} {i : Nat}, (∀ c ∈ l, chOk k c = true) → badF k i l = none
  | [], _, _ => rfl
  | c :: l, i, h => by rw [badF_ok (h c (by simp)), badF_all (fun x hx => h x (by simp [hx]))]
theorem ch_hex {k : Nat} {v : Int} (h0 : 0 ≤ v) (h1 : v ≤ 15) : chOk k (hexU v) = true := by
  unfold chOk
  rw [rDig_hexU h0 h1, decide_eq_true h0]; rfl
theorem ch_ex {k : Nat} {c : UInt8} (h : c ∈ exsR k) : chOk k c = true := by
  unfold chOk
  rw [decide_eq_true h, Bool.or_true]
theorem ch_dig {k : Nat} {c : UInt8} (h : 0 ≤ rDig (c.toNat : Int)) : chOk k c = true := by
  unfold chOk
  rw [decide_eq_true h]; rfl
/-- Where the characters of texts come from. -/
theorem mT_ch : ∀ {rows : List (List Int)}, (∀ r ∈ rows, ∀ t ∈ r, 0 ≤ t ∧ t ≤ 15) → ∀ c ∈ mT rows, c = 91 ∨ c = 93 ∨ ∃ v : Int, (0 ≤ v ∧ v ≤ 15) ∧ c = hexU v := by
  intro rows h c hc
  unfold mT at hc
  obtain ⟨r, hr, hc⟩ := List.mem_flatMap.1 hc
  have hh := h r hr
  have key : c ∈ r.map hexU → ∃ v : Int, (0 ≤ v ∧ v ≤ 15) ∧ c = hexU v := fun hm => by
    obtain ⟨v, hv, rfl⟩ := List.mem_map.1 hm
    exact ⟨v, hh v hv, rfl⟩
  unfold rowT at hc
  split at hc
  · rcases List.mem_cons.1 hc with rfl | hc
    · exact .inl rfl
    · rcases List.mem_append.1 hc with hc | hc
      · exact .inr (.inr (key hc))
      · exact .inr (.inl (List.mem_singleton.1 hc))
  · exact .inr (.inr (key hc))
theorem thT_ch {t : Thr} (h : thrOk t = true) : ∀ c ∈ thT t, c = 120 ∨ ∃ v : Int, (0 ≤ v ∧ v ≤ 15) ∧ c = hexU v := by
  obtain ⟨h1, _, _⟩ := thrOk_iff.1 h
  intro c hc
  unfold thT at hc
  rcases List.mem_cons.1 hc with rfl | hc
  · exact .inr ⟨t.1, ⟨h1.1, by omega⟩, rfl⟩
  · split at hc
    · exact .inl (List.mem_singleton.1 hc)
    · simp at hc
theorem syT_ch {p : List Beat} (h : p.all btOk = true) : ∀ c ∈ syT p, c = 40 ∨ c = 41 ∨ c = 44 ∨ c = 120 ∨ ∃ v : Int, (0 ≤ v ∧ v ≤ 15) ∧ c = hexU v := by
  intro c hc
  unfold syT at hc
  obtain ⟨b, hb, hc⟩ := List.mem_flatMap.1 hc
  have hb2 := List.all_eq_true.1 h b hb
  simp only [btOk, Bool.and_eq_true] at hb2
  unfold btT at hc
  rcases List.mem_cons.1 hc with rfl | hc
  · exact .inl rfl
  · rcases List.mem_append.1 hc with hc | hc
    · exact (thT_ch hb2.1 c hc).elim (fun e => .inr (.inr (.inr (.inl e)))) (fun e => .inr (.inr (.inr (.inr e))))
    · rcases List.mem_cons.1 hc with rfl | hc
      · exact .inr (.inr (.inl rfl))
      · rcases List.mem_append.1 hc with hc | hc
        · exact (thT_ch hb2.2 c hc).elim (fun e => .inr (.inr (.inr (.inl e)))) (fun e => .inr (.inr (.inr (.inr e))))
        · exact .inr (.inl (List.mem_singleton.1 hc))
theorem joinL_ch {s : UInt8} {Q : UInt8 → Prop} (hs : Q s) : ∀ {l : List (List UInt8)}, (∀ x ∈ l, ∀ c ∈ x, Q c) → ∀ c ∈ joinL s l, Q c
  | [], _, c, h => by simp [joinL] at h
  | [x], h, c, hc => h x (by simp) c hc
  | x :: y :: r, h, c, hc => by
    rw [joinL] at hc
    rcases List.mem_append.1 hc with hc | hc
    · exact h x (by simp) c hc
    · rcases List.mem_cons.1 hc with rfl | hc
      · exact hs
      · exact joinL_ch hs (fun z hz => h z (by simp [hz])) c hc
theorem psTx_ch {l : List PT} (h : ptsOk l = true) : ∀ c ∈ psTx l, c = 32 ∨ c = 112 ∨ ∃ v : Int, (0 ≤ v ∧ v ≤ 15) ∧ c = hexU v := by
  refine joinL_ch (Q := fun c => c = 32 ∨ c = 112 ∨ ∃ v : Int, (0 ≤ v ∧ v ≤ 15) ∧ c = hexU v) (.inl rfl) ?_
  intro x hx c hc
  obtain ⟨t, ht, rfl⟩ := List.mem_map.1 hx
  have hb := (ptOk_iff.1 (ptsOk_iff.1 h t ht)).1
  unfold ptT at hc
  rcases List.mem_cons.1 hc with rfl | hc
  · exact .inr (.inr ⟨t.1, hb, rfl⟩)
  · split at hc
    · exact .inr (.inl (List.mem_singleton.1 hc))
    · simp at hc
theorem paT_ch {p : Psg} (h : psSh p = true) : ∀ c ∈ paT p, c = 60 ∨ c = 62 ∨ c = 124 ∨ c = 32 ∨ c = 112 ∨ ∃ v : Int, (0 ≤ v ∧ v ≤ 15) ∧ c = hexU v := by
  obtain ⟨_, _, ha, hb⟩ := psSh_iff.1 h
  intro c hc
  unfold paT at hc
  rcases List.mem_cons.1 hc with rfl | hc
  · exact .inl rfl
  · rcases List.mem_append.1 hc with hc | hc
    · exact .inr (.inr (.inr (psTx_ch ha c hc)))
    · rcases List.mem_cons.1 hc with rfl | hc
      · exact .inr (.inr (.inl rfl))
      · rcases List.mem_append.1 hc with hc | hc
        · exact .inr (.inr (.inr (psTx_ch hb c hc)))
        · exact .inr (.inl (List.mem_singleton.1 hc))
theorem not_in {l : List UInt8} {x : UInt8} (h : ∀ c ∈ l, c ≠ x) : x ∉ l := fun e => h x e rfl
/-- Kinds of texts. -/
theorem kin_p {p : List Int} (h : ∀ t ∈ p, 0 ≤ t ∧ t ≤ 15) : kinR (p.map hexU) = 1 := by
  have key : ∀ x : UInt8, rDig (x.toNat : Int) = -1 → x ∉ p.map hexU := fun x hx => not_in fun c hc => by
    obtain ⟨v, hv, rfl⟩ := List.mem_map.1 hc
    exact hexU_ne (h v hv).1 (h v hv).2 hx
  unfold kinR
  rw [if_neg (key 60 (by decide)), if_neg (key 40 (by decide)), if_neg (key 91 (by decide))]
theorem kin_m {rows : List (List Int)} (h : ∀ r ∈ rows, ∀ t ∈ r, 0 ≤ t ∧ t ≤ 15) : kinR (mT rows) = if (91 : UInt8) ∈ mT rows then 2 else 1 := by
  have key : ∀ x : UInt8, rDig (x.toNat : Int) = -1 → x ≠ 91 → x ≠ 93 → x ∉ mT rows := fun x hx h1 h2 => not_in fun c hc => by
    rcases mT_ch h c hc with rfl | rfl | ⟨v, hv, rfl⟩
    · exact fun e => h1 e.symm
    · exact fun e => h2 e.symm
    · exact hexU_ne hv.1 hv.2 hx
  unfold kinR
  rw [if_neg (key 60 (by decide) (by decide) (by decide)), if_neg (key 40 (by decide) (by decide) (by decide))]
theorem kin_s {p : List Beat} (h : p.all btOk = true) (h1 : 1 ≤ p.length) : kinR (syT p) = 3 := by
  have h60 : (60 : UInt8) ∉ syT p := not_in fun c hc => by
    rcases syT_ch h c hc with rfl | rfl | rfl | rfl | ⟨v, hv, rfl⟩
    · decide
    · decide
    · decide
    · decide
    · exact hexU_ne hv.1 hv.2 (by decide)
  have h40 : (40 : UInt8) ∈ syT p := by
    cases p with
    | nil => simp at h1
    | cons b p => rw [syT_cons]; simp [btT]
  unfold kinR
  rw [if_neg h60, if_pos h40]
theorem kin_a (p : Psg) : kinR (paT p) = 4 := by
  unfold kinR
  rw [if_pos (by simp [paT])]
theorem rdDig_hex {p : List Int} (h : ∀ t ∈ p, 0 ≤ t ∧ t ≤ 15) : rdDig (p.map hexU) = p := by
  unfold rdDig
  rw [List.map_map]
  refine (List.map_congr_left fun v hv => ?_).trans (List.map_id p)
  exact rDig_hexU (h v hv).1 (h v hv).2
/-- A multiplex pattern with single throws is a pattern. -/
theorem mT_single {rows : List (List Int)} (h : ∀ r ∈ rows, r.length = 1) : mT rows = (rows.map fun r => r.headD 0).map hexU ∧ rows = (rows.map fun r => r.headD 0).map fun x => [x] := by
  induction rows with
  | nil => exact ⟨rfl, rfl⟩
  | cons r rows ih =>
    obtain ⟨t, rfl⟩ := List.length_eq_one_iff.1 (h r (by simp))
    obtain ⟨h1, h2⟩ := ih fun x hx => h x (by simp [hx])
    refine ⟨?_, ?_⟩
    · rw [mT_cons, h1]; rfl
    · rw [List.map_cons, List.map_cons, ← h2]; rfl
theorem mT_no91 {rows : List (List Int)} (h : ∀ r ∈ rows, 1 ≤ r.length) (h91 : (91 : UInt8) ∉ mT rows) : ∀ r ∈ rows, r.length = 1 := by
  intro r hr
  apply Classical.byContradiction
  intro hne
  apply h91
  unfold mT
  refine List.mem_flatMap.2 ⟨r, hr, ?_⟩
  unfold rowT
  rw [if_pos (by have := h r hr; omega)]
  simp
end Go.Proofs.YtgphkfnobmponaaGreat
