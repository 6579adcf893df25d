/- Contracts of the functions that read texts of synchronous patterns: throws. -/
import Derived.Test.YtkglkpohbckpcaaGreatYy
namespace Go.Proofs.YtkglkpohbckpcaaGreat
open Go.RowKit
set_option linter.unusedVariables false

/-- A throw that is read, and whether it is one. -/
def ThrRes (r : Option Thr) (e : Ending) : Prop := ∃ t : Thr, e = .returned (.tuple #[.agg #[.int .i64 t.1, .bool t.2], .bool r.isSome]) ∧ ∀ t', r = some t' → t' = t
theorem ThrRes.no {t : Thr} : ThrRes none (.returned (.tuple #[.agg #[.int .i64 t.1, .bool t.2], .bool false])) := ⟨t, rfl, fun t' h => by cases h⟩
theorem rdT_one {l : List UInt8} {x : UInt8} (h : l = [x]) {b : Bool} (hb : thrOk (rDig (x.toNat : Int), false) = b) : ThrRes (rdT l) (.returned (.tuple #[.agg #[.int .i64 (rDig (x.toNat : Int)), .bool false], .bool b])) := by
  subst h
  show ThrRes (if thrOk (rDig (x.toNat : Int), false) then some (rDig (x.toNat : Int), false) else none) _
  rw [hb]
  cases b
  · exact ThrRes.no (t := (rDig (x.toNat : Int), false))
  · exact ⟨_, rfl, fun t' h => by injection h with h; exact h.symm⟩
theorem rdT_two {l : List UInt8} {x : UInt8} (h : l = [x, 120]) {b : Bool} (hb : thrOk (rDig (x.toNat : Int), true) = b) : ThrRes (rdT l) (.returned (.tuple #[.agg #[.int .i64 (rDig (x.toNat : Int)), .bool true], .bool b])) := by
  subst h
  show ThrRes (if (120 : UInt8) = 120 then (if thrOk (rDig (x.toNat : Int), true) then some (rDig (x.toNat : Int), true) else none) else none) _
  rw [if_pos rfl, hb]
  cases b
  · exact ThrRes.no (t := (rDig (x.toNat : Int), true))
  · exact ⟨_, rfl, fun t' h => by injection h with h; exact h.symm⟩
theorem rdT_else {l : List UInt8} (h1 : ∀ x, l ≠ [x]) (h2 : ∀ x, l ≠ [x, 120]) : rdT l = none := by
  unfold rdT
  split
  · rename_i c; exact absurd rfl (h1 c)
  · rename_i c x
    by_cases hx : x = 120
    · subst hx; exact absurd rfl (h2 c)
    · rw [if_neg hx]
  · rfl
set_option maxHeartbeats 1000000 in
theorem readThr_any (s : ByteArray) (w : World) (hs : s.size ≤ 1099511627776) :
    Calls Tryz.prog 121 #[.string s] w fun e w' => ThrRes (rdT (tl s)) e ∧ Below w.heap.size w w' := by
  by_cases h2 : s.size = 2
  · have hx := tl_two h2
    have hq : ((s.size : Int) == 2) = true := by simp; omega
    have hi : (1 : Int) < (s.size : Int) := by omega
    have hi2 : (1 : Int) ≤ (s.size : Int) := by omega
    by_cases hx1 : s[1]'(by omega) = 120
    · rw [hx1] at hx
      have hq2 : (((s[1]'(by omega)).toNat : Int) == 120) = true := by rw [hx1]; rfl
      obtain ⟨sub, hsub⟩ : ∃ sub, s.extract 0 1 = sub := ⟨_, rfl⟩
      have hsz : sub.size = 1 := by rw [← hsub, ByteArray.size_extract]; omega
      have hs0 := one_first hx hsub hsz
      obtain ⟨x, hxx⟩ : ∃ x, s[0]'(by omega) = x := ⟨_, rfl⟩
      rw [hxx] at hx hs0
      have hT := hid (fun w1 => isSyncThrow_any (rDig (x.toNat : Int)) true w1)
      obtain ⟨tb, htb⟩ : ∃ tb, thrOk (rDig (x.toNat : Int), true) = tb := ⟨_, rfl⟩
      have HR := hid (rdT_two hx htb)
      rw [htb] at hT
      have hH := hid (fun w1 => hexOf_any (x.toNat : Int) (by omega) (by have := x.toNat_lt; omega) w1)
      generalize rDig (x.toNat : Int) = d at *
      clear hx htb hx1 hxx
      go_enter Tryz.func121, Tryz.ntmps121
      go_wp2_with (go_at_call 52; refine (hH.out _).mono ?_; rintro e w' ⟨rfl, rfl⟩)
      go_region_held3 (fun w' => w'.cell? ⟨w.heap.size + 1, 0, none⟩ = some (.int .i64 d) ∧ w'.cell? ⟨w.heap.size + 1, 1, none⟩ = some (.bool true)) (go_keep) ((go_at_call 151; refine (hT.out _).mono ?_; rintro e w5 ⟨rfl, hb5⟩; have hcl := (fun o => hb5.cell (p := ⟨w.heap.size, o, none⟩) (by first | (simp; done) | (simp; omega))); have hfl := (fun o => hb5.frozen (p := ⟨w.heap.size, o, none⟩) (by first | (simp; done) | (simp; omega))); have hcl2 := (fun o => hb5.cell (p := ⟨w.heap.size + 1, o, none⟩) (by first | (simp; done) | (simp; omega)))))
      all_goals
        go_wp2
        refine bodyPost_ret (v := .tuple #[.agg #[.int .i64 d, .bool true], .bool tb]) ?_ rfl ⟨HR.out, ?_⟩
        · simp (maxDischargeDepth := 8) [results, Tryz.results121, go_sem, *]
        · exact (by repeat' (first | exact Below.refl _ _ | (with_reducible assumption) | (with_reducible refine Below.alloc ?_ ?_ _) | (with_reducible refine Below.setCell ?_ ?_ _) | (with_reducible refine Below.drew ?_) | (with_reducible refine below_drewN ?_ _) | (refine Below.trans ?_ (Below.mono (by assumption) ?_)) | (with_reducible exact Nat.le_refl _) | (with_reducible assumption) | (exact Below.size (by assumption)) | omega | go_size | (simp at *; omega)))
    · have hq2 : (((s[1]'(by omega)).toNat : Int) == 120) = false := by
        simp only [beq_eq_false_iff_ne, ne_eq]
        intro e
        exact hx1 (UInt8.toNat_inj.1 (by have e : (s[1]'(by omega)).toNat = 120 := by omega
                                         rw [e]; rfl))
      have hq3 : ((s.size : Int) != 1) = true := by simp; omega
      have HR : Hid (rdT (tl s) = none) := rdT_else (fun x h => by rw [hx] at h; cases h) (fun x h => by rw [hx] at h; injection h with _ h; injection h with h _; exact hx1 h)
      clear hx hx1
      go_enter Tryz.func121, Tryz.ntmps121
      go_wp2
      refine bodyPost_ret (v := .tuple #[.agg #[.int .i64 0, .bool false], .bool false]) ?_ rfl ⟨by rw [HR.out]; exact ThrRes.no (t := (0, false)), ?_⟩
      · simp (maxDischargeDepth := 8) [results, Tryz.results121, go_sem, *]
      · exact (by repeat' (first | exact Below.refl _ _ | (with_reducible assumption) | (with_reducible refine Below.alloc ?_ ?_ _) | (with_reducible refine Below.setCell ?_ ?_ _) | (with_reducible refine Below.drew ?_) | (with_reducible refine below_drewN ?_ _) | (refine Below.trans ?_ (Below.mono (by assumption) ?_)) | (with_reducible exact Nat.le_refl _) | (with_reducible assumption) | (exact Below.size (by assumption)) | omega | go_size | (simp at *; omega)))
  · have hq : ((s.size : Int) == 2) = false := by simp; omega
    by_cases h1 : s.size = 1
    · have hx := tl_one h1
      have hq3 : ((s.size : Int) != 1) = false := by simp; omega
      have hi : (0 : Int) < (s.size : Int) := by omega
      obtain ⟨x, hxx⟩ : ∃ x, s[0]'(by omega) = x := ⟨_, rfl⟩
      rw [hxx] at hx
      have hT := hid (fun w1 => isSyncThrow_any (rDig (x.toNat : Int)) false w1)
      obtain ⟨tb, htb⟩ : ∃ tb, thrOk (rDig (x.toNat : Int), false) = tb := ⟨_, rfl⟩
      have HR := hid (rdT_one hx htb)
      rw [htb] at hT
      have hH := hid (fun w1 => hexOf_any (x.toNat : Int) (by omega) (by have := x.toNat_lt; omega) w1)
      generalize rDig (x.toNat : Int) = d at *
      clear hx htb h2
      go_enter Tryz.func121, Tryz.ntmps121
      go_wp2_with (go_at_call 52; refine (hH.out _).mono ?_; rintro e w' ⟨rfl, rfl⟩)
      go_region_held3 (fun w' => w'.cell? ⟨w.heap.size + 1, 0, none⟩ = some (.int .i64 d) ∧ w'.cell? ⟨w.heap.size + 1, 1, none⟩ = some (.bool false)) (go_keep) ((go_at_call 151; refine (hT.out _).mono ?_; rintro e w5 ⟨rfl, hb5⟩; have hcl := (fun o => hb5.cell (p := ⟨w.heap.size, o, none⟩) (by first | (simp; done) | (simp; omega))); have hfl := (fun o => hb5.frozen (p := ⟨w.heap.size, o, none⟩) (by first | (simp; done) | (simp; omega))); have hcl2 := (fun o => hb5.cell (p := ⟨w.heap.size + 1, o, none⟩) (by first | (simp; done) | (simp; omega)))))
      all_goals
        go_wp2
        refine bodyPost_ret (v := .tuple #[.agg #[.int .i64 d, .bool false], .bool tb]) ?_ rfl ⟨HR.out, ?_⟩
        · simp (maxDischargeDepth := 8) [results, Tryz.results121, go_sem, *]
        · exact (by repeat' (first | exact Below.refl _ _ | (with_reducible assumption) | (with_reducible refine Below.alloc ?_ ?_ _) | (with_reducible refine Below.setCell ?_ ?_ _) | (with_reducible refine Below.drew ?_) | (with_reducible refine below_drewN ?_ _) | (refine Below.trans ?_ (Below.mono (by assumption) ?_)) | (with_reducible exact Nat.le_refl _) | (with_reducible assumption) | (exact Below.size (by assumption)) | omega | go_size | (simp at *; omega)))
    · have hq3 : ((s.size : Int) != 1) = true := by simp; omega
      have hll := tl_len s
      have HR : Hid (rdT (tl s) = none) := rdT_else (fun x h => by rw [h] at hll; simp at hll; omega) (fun x h => by rw [h] at hll; simp at hll; omega)
      clear h1 h2 hll
      go_enter Tryz.func121, Tryz.ntmps121
      go_wp2
      refine bodyPost_ret (v := .tuple #[.agg #[.int .i64 0, .bool false], .bool false]) ?_ rfl ⟨by rw [HR.out]; exact ThrRes.no (t := (0, false)), ?_⟩
      · simp (maxDischargeDepth := 8) [results, Tryz.results121, go_sem, *]
      · exact (by repeat' (first | exact Below.refl _ _ | (with_reducible assumption) | (with_reducible refine Below.alloc ?_ ?_ _) | (with_reducible refine Below.setCell ?_ ?_ _) | (with_reducible refine Below.drew ?_) | (with_reducible refine below_drewN ?_ _) | (refine Below.trans ?_ (Below.mono (by assumption) ?_)) | (with_reducible exact Nat.le_refl _) | (with_reducible assumption) | (exact Below.size (by assumption)) | omega | go_size | (simp at *; omega)))
set_option maxHeartbeats 1000000 in
theorem l05Read_any (s : ByteArray) (w : World) (hs : s.size ≤ 1099511627776) :
    Calls Tryz.prog 138 #[.string s] w fun e w' => ThrRes (rdT (tl s)) e ∧ Below w.heap.size w w' := by
  have hemp := tl_empty (s := s)
  by_cases h2 : s.size = 2
  · have hx := tl_two h2
    have he : s.toList.isEmpty = false := by rw [hemp, hx]; rfl
    have hq : ((s.size : Int) == 2) = true := by simp; omega
    have hi : (1 : Int) < (s.size : Int) := by omega
    have hi2 : (0 : Int) < (s.size : Int) := by omega
    have hi3 : ¬ (2 : Int) < (s.size : Int) := by omega
    by_cases hx1 : s[1]'(by omega) = 120
    · rw [hx1] at hx
      have hq2 : (((s[1]'(by omega)).toNat : Int) != 120) = false := by rw [hx1]; rfl
      obtain ⟨x, hxx⟩ : ∃ x, s[0]'(by omega) = x := ⟨_, rfl⟩
      rw [hxx] at hx
      have hT := hid (fun w1 => l05Throw_any (rDig (x.toNat : Int)) true w1)
      obtain ⟨tb, htb⟩ : ∃ tb, thrOk (rDig (x.toNat : Int), true) = tb := ⟨_, rfl⟩
      have HR := hid (rdT_two hx htb)
      rw [htb] at hT
      have hH := hid (fun w1 => l04Value_any (x.toNat : Int) (by omega) (by have := x.toNat_lt; omega) w1)
      generalize rDig (x.toNat : Int) = d at *
      clear hx htb hx1 hemp
      go_enter Tryz.func138, Tryz.ntmps138
      go_wp2_with (go_at_call 99; refine (hH.out _).mono ?_; rintro e w' ⟨rfl, rfl⟩)
      go_region_held3 (fun w' => w'.cell? ⟨w.heap.size + 1, 0, none⟩ = some (.int .i64 d) ∧ w'.cell? ⟨w.heap.size + 1, 1, none⟩ = some (.bool true)) (go_keep) ((go_at_call 163; refine (hT.out _).mono ?_; rintro e w5 ⟨rfl, hb5⟩; have hcl := (fun o => hb5.cell (p := ⟨w.heap.size, o, none⟩) (by first | (simp; done) | (simp; omega))); have hfl := (fun o => hb5.frozen (p := ⟨w.heap.size, o, none⟩) (by first | (simp; done) | (simp; omega))); have hcl2 := (fun o => hb5.cell (p := ⟨w.heap.size + 1, o, none⟩) (by first | (simp; done) | (simp; omega)))))
      all_goals
        go_wp2
        refine bodyPost_ret (v := .tuple #[.agg #[.int .i64 d, .bool true], .bool tb]) ?_ rfl ⟨HR.out, ?_⟩
        · simp (maxDischargeDepth := 8) [results, Tryz.results138, go_sem, *]
        · exact (by repeat' (first | exact Below.refl _ _ | (with_reducible assumption) | (with_reducible refine Below.alloc ?_ ?_ _) | (with_reducible refine Below.setCell ?_ ?_ _) | (with_reducible refine Below.drew ?_) | (with_reducible refine below_drewN ?_ _) | (refine Below.trans ?_ (Below.mono (by assumption) ?_)) | (with_reducible exact Nat.le_refl _) | (with_reducible assumption) | (exact Below.size (by assumption)) | omega | go_size | (simp at *; omega)))
    · have hq2 : (((s[1]'(by omega)).toNat : Int) != 120) = true := by
        simp only [bne_iff_ne, ne_eq]
        intro e
        exact hx1 (UInt8.toNat_inj.1 (by have e : (s[1]'(by omega)).toNat = 120 := by omega
                                         rw [e]; rfl))
      have HR : Hid (rdT (tl s) = none) := rdT_else (fun x h => by rw [hx] at h; cases h) (fun x h => by rw [hx] at h; injection h with _ h; injection h with h _; exact hx1 h)
      clear hx hx1 hemp
      go_enter Tryz.func138, Tryz.ntmps138
      go_wp2
      refine bodyPost_ret (v := .tuple #[.agg #[.int .i64 0, .bool false], .bool false]) ?_ rfl ⟨by rw [HR.out]; exact ThrRes.no (t := (0, false)), ?_⟩
      · simp (maxDischargeDepth := 8) [results, Tryz.results138, go_sem, *]
      · exact (by repeat' (first | exact Below.refl _ _ | (with_reducible assumption) | (with_reducible refine Below.alloc ?_ ?_ _) | (with_reducible refine Below.setCell ?_ ?_ _) | (with_reducible refine Below.drew ?_) | (with_reducible refine below_drewN ?_ _) | (refine Below.trans ?_ (Below.mono (by assumption) ?_)) | (with_reducible exact Nat.le_refl _) | (with_reducible assumption) | (exact Below.size (by assumption)) | omega | go_size | (simp at *; omega)))
  · have hq : ((s.size : Int) == 2) = false := by simp; omega
    by_cases h1 : s.size = 1
    · have hx := tl_one h1
      have he : s.toList.isEmpty = false := by rw [hemp, hx]; rfl
      have hi : (0 : Int) < (s.size : Int) := by omega
      have hi3 : ¬ (2 : Int) < (s.size : Int) := by omega
      obtain ⟨x, hxx⟩ : ∃ x, s[0]'(by omega) = x := ⟨_, rfl⟩
      rw [hxx] at hx
      have hT := hid (fun w1 => l05Throw_any (rDig (x.toNat : Int)) false w1)
      obtain ⟨tb, htb⟩ : ∃ tb, thrOk (rDig (x.toNat : Int), false) = tb := ⟨_, rfl⟩
      have HR := hid (rdT_one hx htb)
      rw [htb] at hT
      have hH := hid (fun w1 => l04Value_any (x.toNat : Int) (by omega) (by have := x.toNat_lt; omega) w1)
      generalize rDig (x.toNat : Int) = d at *
      clear hx htb hemp h2
      go_enter Tryz.func138, Tryz.ntmps138
      go_wp2_with (go_at_call 99; refine (hH.out _).mono ?_; rintro e w' ⟨rfl, rfl⟩)
      go_region_held3 (fun w' => w'.cell? ⟨w.heap.size + 1, 0, none⟩ = some (.int .i64 d) ∧ w'.cell? ⟨w.heap.size + 1, 1, none⟩ = some (.bool false)) (go_keep) ((go_at_call 163; refine (hT.out _).mono ?_; rintro e w5 ⟨rfl, hb5⟩; have hcl := (fun o => hb5.cell (p := ⟨w.heap.size, o, none⟩) (by first | (simp; done) | (simp; omega))); have hfl := (fun o => hb5.frozen (p := ⟨w.heap.size, o, none⟩) (by first | (simp; done) | (simp; omega))); have hcl2 := (fun o => hb5.cell (p := ⟨w.heap.size + 1, o, none⟩) (by first | (simp; done) | (simp; omega)))))
      all_goals
        go_wp2
        refine bodyPost_ret (v := .tuple #[.agg #[.int .i64 d, .bool false], .bool tb]) ?_ rfl ⟨HR.out, ?_⟩
        · simp (maxDischargeDepth := 8) [results, Tryz.results138, go_sem, *]
        · exact (by repeat' (first | exact Below.refl _ _ | (with_reducible assumption) | (with_reducible refine Below.alloc ?_ ?_ _) | (with_reducible refine Below.setCell ?_ ?_ _) | (with_reducible refine Below.drew ?_) | (with_reducible refine below_drewN ?_ _) | (refine Below.trans ?_ (Below.mono (by assumption) ?_)) | (with_reducible exact Nat.le_refl _) | (with_reducible assumption) | (exact Below.size (by assumption)) | omega | go_size | (simp at *; omega)))
    · have hll := tl_len s
      have HR : Hid (rdT (tl s) = none) := rdT_else (fun x h => by rw [h] at hll; simp at hll; omega) (fun x h => by rw [h] at hll; simp at hll; omega)
      by_cases h0 : s.size = 0
      · have he : s.toList.isEmpty = true := by rw [hemp]; exact decide_eq_true (List.eq_nil_of_length_eq_zero (by omega))
        clear h1 h2 hll hemp h0
        go_enter Tryz.func138, Tryz.ntmps138
        go_wp2
        refine bodyPost_ret (v := .tuple #[.agg #[.int .i64 0, .bool false], .bool false]) ?_ rfl ⟨by rw [HR.out]; exact ThrRes.no (t := (0, false)), ?_⟩
        · simp (maxDischargeDepth := 8) [results, Tryz.results138, go_sem, *]
        · exact (by repeat' (first | exact Below.refl _ _ | (with_reducible assumption) | (with_reducible refine Below.alloc ?_ ?_ _) | (with_reducible refine Below.setCell ?_ ?_ _) | (with_reducible refine Below.drew ?_) | (with_reducible refine below_drewN ?_ _) | (refine Below.trans ?_ (Below.mono (by assumption) ?_)) | (with_reducible exact Nat.le_refl _) | (with_reducible assumption) | (exact Below.size (by assumption)) | omega | go_size | (simp at *; omega)))
      · have he : s.toList.isEmpty = false := by rw [hemp]; exact decide_eq_false (fun e => h0 (by rw [← hll, e]; rfl))
        have hi3 : (2 : Int) < (s.size : Int) := by omega
        clear h1 h2 hll hemp h0
        go_enter Tryz.func138, Tryz.ntmps138
        go_wp2
        refine bodyPost_ret (v := .tuple #[.agg #[.int .i64 0, .bool false], .bool false]) ?_ rfl ⟨by rw [HR.out]; exact ThrRes.no (t := (0, false)), ?_⟩
        · simp (maxDischargeDepth := 8) [results, Tryz.results138, go_sem, *]
        · exact (by repeat' (first | exact Below.refl _ _ | (with_reducible assumption) | (with_reducible refine Below.alloc ?_ ?_ _) | (with_reducible refine Below.setCell ?_ ?_ _) | (with_reducible refine Below.drew ?_) | (with_reducible refine below_drewN ?_ _) | (refine Below.trans ?_ (Below.mono (by assumption) ?_)) | (with_reducible exact Nat.le_refl _) | (with_reducible assumption) | (exact Below.size (by assumption)) | omega | go_size | (simp at *; omega)))
end Go.Proofs.YtkglkpohbckpcaaGreat
