/- Contracts of the operations of patterns: RotatePattern, ReversePattern, SwapLandings, RaiseThrow, ShiftThrows, DualPattern, of valid patterns. -/
import Derived.Test.YteaabniemlnjbaaTn
import Derived.Test.YteaabniemlnjbaaBt
import Derived.Test.YteaabniemlnjbaaCo
import Derived.Test.YteaabniemlnjbaaDr
import Derived.BigRegion
import Derived.StillTailTactics
import Derived.Deep.RegionWith
import Derived.Deep.QuietTactic
import Derived.BigQuiet
import Derived.IntWalk
namespace Go.Proofs.Yteaabniemlnjbaa
open Go.RowKit
set_option linter.unusedVariables false

theorem own_blk {w : World} {base e sz n : Nat} {v : Value} {xs : List Value} (h : w.ownsRow base e sz v n xs) (hn : 0 < n) : ∃ g c, v = .slice (some ⟨g, 0, none⟩) n c ∧ base ≤ g ∧ g < w.heap.size := by
  rcases h.2 with ⟨_, h0⟩ | ⟨g, cap, cur, rfl, hge, hh, _⟩
  · omega
  · exact ⟨g, cap, rfl, hge, (Array.getElem?_eq_some_iff.1 hh).1⟩
theorem intsSet (xs : List Int) (i : Nat) (x : Int) : (ints xs).set i (.int .i64 x) = ints (xs.set i x) := by simp [ints, List.map_set]
/-- A list that is given back if it is one of throws. -/
def ThRes (B : Nat) (R : List Int) (e : Ending) (w : World) : Prop := (thOk R = true ∧ ∃ v, e = .returned (.tuple #[v, .int .i64 0]) ∧ w.ownsRow B 2 1 v R.length (ints R)) ∨ (thOk R = false ∧ e = .returned (.tuple #[.slice none 0 0, .int .i64 2]))
theorem a2Sum_any (A : Option Addr) (n c : Nat) (p : List Int) (w : World) (hn : n ≤ 1000) (hp : ∀ x ∈ p, 0 ≤ x ∧ x ≤ 1000) (hr : Rd w w.heap.size 1 A n (ints p)) :
    Calls Try.prog 44 #[.slice A n c] w fun e w' => e = .returned (.int .i64 (sumL p)) ∧ w = w' := by
  have hst : Hid ((0 : Int) + sumL (p.drop 0) = sumL p) := by show _ = _; simp
  generalize sumL p = S at *
  have HP := hid hp
  clear hp
  go_enter Try.func44, Try.ntmps44
  go_wp2
  go_loop [3, 4] (fun s i => Hid (∃ (k : Nat) (x : Int), k ≤ n ∧ i = .int .i64 k ∧ s = .int .i64 x ∧ 0 ≤ x ∧ x ≤ 1000 * k ∧ Hid (x + sumL (p.drop k) = S))) (fun _ i => n - (intOf i).toNat)
  case atStart => exact hid ⟨0, 0, Nat.zero_le _, rfl, rfl, by omega, by omega, hst⟩
  case round =>
    obtain ⟨k, x, hk, rfl, rfl, hx0, hx1, he⟩ := hrel.out
    by_cases hlt : k < n
    · obtain ⟨b, off, y, rfl, hb, hy, hd, hc⟩ := hr.at_ hlt
      obtain ⟨y0, y1⟩ := HP.out y (List.mem_of_getElem? hy)
      have HZ : Hid (x + y + sumL (p.drop (k + 1)) = S) := by
        show _ = _
        rw [← he.out, hd, sumL]; omega
      clear he hst hy hd
      go_wp2
      go_round
      case rel => exact hid ⟨k + 1, x + y, by omega, by go_num, by go_num, by omega, by omega, HZ⟩
      case measure => simp [intOf]; omega
    · have he := he.out
      rw [List.drop_eq_nil_of_le (by have := hr.len; omega)] at he
      simp only [sumL, Int.add_zero] at he
      subst he
      go_wp2
      go_ret
      exact ⟨rfl, rfl⟩
theorem isBt_any (n : Int) (w : World) : Calls Try.prog 138 #[.int .i64 n] w fun e w' => e = .returned (.bool (betweenB n (-1000000) 1000000)) ∧ w = w' := by
  go_enter Try.func138, Try.ntmps138
  go_wp2_with (go_at_call 79; refine (between_any _ _ _ _).mono ?_; rintro e w' ⟨rfl, rfl⟩)
  go_ret
  exact ⟨rfl, rfl⟩
theorem beatCode_ok (A : Option Addr) (n c : Nat) (p : List Int) (b : Int) (w : World) (hn : n ≤ 1099511627776) (b1 : -1000000 ≤ b) (b2 : b ≤ 1000000) (hp : okP p = true) (hr : Rd w w.heap.size 1 A n (ints p)) :
    Calls Try.prog 101 #[.slice A n c, .int .i64 b] w fun e w' => e = .returned (.int .i64 0) ∧ Below w.heap.size w w' := by
  have hV := ValidPattern_any A n c p w hn hr
  rw [hp] at hV
  have hV := hid hV
  have hB := fun w' => isBt_any b w'
  have hb : betweenB b (-1000000) 1000000 = true := by rw [betweenB_iff]; omega
  rw [hb] at hB
  have hB := hid hB
  clear hp hr hb
  go_enter Try.func101, Try.ntmps101
  go_wp2_with (first | (go_at_call 64; refine (hV.out).mono ?_; rintro e w1 ⟨rfl, hb1⟩; first | (have hk1 := bchain (by assumption) hb1; obtain ⟨hc1, hf1, hz1, hl1⟩ := bcell hk1) | (obtain ⟨hc1, hf1, hz1, hl1⟩ := bcell hb1)) | (go_at_call 138; refine (hB.out _).mono ?_; rintro e w' ⟨rfl, rfl⟩))
  go_ret
  exact ⟨rfl, (by repeat' (first | exact Below.refl _ _ | (with_reducible assumption) | (with_reducible refine Below.alloc ?_ ?_ _) | (with_reducible refine Below.setCell ?_ ?_ _) | (with_reducible refine Below.drew ?_) | (with_reducible refine below_drewN ?_ _) | (refine Below.trans ?_ (Below.mono (by assumption) ?_)) | (with_reducible exact Nat.le_refl _) | (with_reducible assumption) | (exact Below.size (by assumption)) | omega | go_size | (simp at *; omega)))⟩
theorem rotated_ok (A : Option Addr) (n c : Nat) (p : List Int) (d : Int) (w : World) (b1 : -1000000 ≤ d) (b2 : d ≤ 1000000) (hp : okP p = true) (hr : Rd w w.heap.size 1 A n (ints p)) :
    Calls Try.prog 102 #[.slice A n c, .int .i64 d] w fun e w' => ∃ v, e = .returned v ∧ w'.ownsRow w.heap.size 2 1 v (rotP p d).length (ints (rotP p d)) ∧ Below w.heap.size w w' := by
  have hlen := hr.len
  obtain ⟨_, hn1, hn2⟩ := thOk_iff (okP_th hp)
  rw [hlen] at hn1 hn2
  have hst : Hid (([] : List Int) = (rotP p d).take 0) := by show _ = _; simp
  have hstep := hid (fun (k : Nat) (h : k < n) => show (rotP p d).take (k + 1) = (rotP p d).take k ++ [atB p ((k : Int) + d)] from mkL_step (by omega))
  have hRl : (rotP p d).length = n := by rw [rotP_len, hlen]
  have hT := hid (fun (w1 : World) (b : Below w.heap.size w w1) (x : Int) => throwAt_any A n c p x w1 (by omega) hn1 ((hr.below b (Nat.le_refl _)).more b.size))
  generalize rotP p d = R at *
  clear hlen hp hr
  go_enter Try.func102, Try.ntmps102
  go_wp2
  go_loopw [5, 10] (fun v i wr => Hid (∃ k : Nat, k ≤ n ∧ i = .int .i64 k ∧ wr.ownsRow w.heap.size 2 1 v (R.take k).length (ints (R.take k)) ∧ Below w.heap.size w wr)) (fun _ i _ => n - (intOf i).toNat)
  case atStart => exact hid ⟨0, Nat.zero_le _, rfl, by rw [← hst.out]; exact World.ownsRow_lit _ _ 0 (Nat.le_refl _) (by simp [maxLen]) rfl, (by repeat' (first | exact Below.refl _ _ | (with_reducible assumption) | (with_reducible refine Below.alloc ?_ ?_ _) | (with_reducible refine Below.setCell ?_ ?_ _) | (with_reducible refine Below.drew ?_) | (with_reducible refine below_drewN ?_ _) | (refine Below.trans ?_ (Below.mono (by assumption) ?_)) | (with_reducible exact Nat.le_refl _) | (with_reducible assumption) | (exact Below.size (by assumption)) | omega | go_size | (simp at *; omega)))⟩
  case round =>
    obtain ⟨k, hk, rfl, ho, hb0⟩ := hrel.out
    have hkl : (R.take k).length ≤ 12 := by rw [List.length_take]; omega
    have hz := hb0.size
    by_cases hlt : k < n
    · have hs := hid (hstep.out k hlt)
      have hC := hid (hT.out wr hb0 ((k : Int) + d))
      generalize atB p ((k : Int) + d) = x at *
      go_wp2_with (first | (go_at_call 116; refine (hC.out).mono ?_; rintro e w' ⟨rfl, rfl⟩) | (at_builtin; refine push_int ho (x) _ Try.underlying22 inf_int rfl rfl _ _ rfl rfl rfl (by omega) (by omega) ?_; intro v1 w1 ho1 hb1 hg1))
      go_roundw
      case rel => exact hid ⟨k + 1, by omega, by go_num, by rw [hs.out]; exact ho1, (by repeat' (first | exact Below.refl _ _ | (with_reducible assumption) | (with_reducible refine Below.alloc ?_ ?_ _) | (with_reducible refine Below.setCell ?_ ?_ _) | (with_reducible refine Below.drew ?_) | (with_reducible refine below_drewN ?_ _) | (refine Below.trans ?_ (Below.mono (by assumption) ?_)) | (with_reducible exact Nat.le_refl _) | (with_reducible assumption) | (exact Below.size (by assumption)) | omega | go_size | (simp at *; omega)))⟩
      case measure => simp [intOf]; omega
    · have hkn : k = n := by omega
      subst hkn
      rw [List.take_of_length_le (by omega)] at ho
      go_wp2
      go_ret
      exact ⟨_, rfl, ho, hb0⟩
theorem RotatePattern_ok (A : Option Addr) (n c : Nat) (p : List Int) (d : Int) (w : World) (b1 : -1000000 ≤ d) (b2 : d ≤ 1000000) (hp : okP p = true) (hr : Rd w w.heap.size 1 A n (ints p)) :
    Calls Try.prog 40 #[.slice A n c, .int .i64 d] w fun e w' => ∃ v, e = .returned (.tuple #[v, .int .i64 0]) ∧ w'.ownsRow w.heap.size 2 1 v (rotP p d).length (ints (rotP p d)) ∧ Below w.heap.size w w' := by
  have hn2 := (thOk_iff (okP_th hp)).2.2
  have hlen := hr.len
  have hC := hid (beatCode_ok A n c p d w (by omega) b1 b2 hp hr)
  have hR := hid (fun (w1 : World) (b : Below w.heap.size w w1) => rotated_ok A n c p d w1 b1 b2 hp ((hr.below b (Nat.le_refl _)).more b.size))
  clear hp hr hn2 hlen
  go_enter Try.func40, Try.ntmps40
  go_wp2_with (first | (go_at_call 101; refine (hC.out).mono ?_; rintro e w1 ⟨rfl, hb1⟩; first | (have hk1 := bchain (by assumption) hb1; obtain ⟨hc1, hf1, hz1, hl1⟩ := bcell hk1) | (obtain ⟨hc1, hf1, hz1, hl1⟩ := bcell hb1)) | (go_at_call 102; refine (hR.out _ hb1).mono ?_; rintro e w2 ⟨v2, rfl, ho2, hb2⟩))
  go_ret2
  exact ⟨_, rfl, own_more ho2 hb1.size, (by repeat' (first | exact Below.refl _ _ | (with_reducible assumption) | (with_reducible refine Below.alloc ?_ ?_ _) | (with_reducible refine Below.setCell ?_ ?_ _) | (with_reducible refine Below.drew ?_) | (with_reducible refine below_drewN ?_ _) | (refine Below.trans ?_ (Below.mono (by assumption) ?_)) | (with_reducible exact Nat.le_refl _) | (with_reducible assumption) | (exact Below.size (by assumption)) | omega | go_size | (simp at *; omega)))⟩
theorem reversed_ok (A : Option Addr) (n c : Nat) (p : List Int) (w : World) (hp : okP p = true) (hr : Rd w w.heap.size 1 A n (ints p)) :
    Calls Try.prog 103 #[.slice A n c] w fun e w' => ∃ v, e = .returned v ∧ w'.ownsRow w.heap.size 2 1 v (revP p).length (ints (revP p)) ∧ Below w.heap.size w w' := by
  have hlen := hr.len
  obtain ⟨_, hn1, hn2⟩ := thOk_iff (okP_th hp)
  rw [hlen] at hn1 hn2
  have hst : Hid (([] : List Int) = (revP p).take 0) := by show _ = _; simp
  have hstep := hid (fun (k : Nat) (h : k < n) => show (revP p).take (k + 1) = (revP p).take k ++ [atB p (lf p ((n : Int) - 1 - (k : Int)))] from by
    have h1 := mkL_step (n := p.length) (f := fun x => atB p (lf p ((p.length : Int) - 1 - x))) (k := k) (by omega)
    have h2 : (p.length : Int) = (n : Int) := by omega
    rw [show revP p = mkL p.length (fun x => atB p (lf p ((p.length : Int) - 1 - x))) from rfl, h1, h2])
  have hRl : (revP p).length = n := by rw [revP_len, hlen]
  have hT := hid (fun (w1 : World) (b : Below w.heap.size w w1) (x : Int) => throwAt_any A n c p x w1 (by omega) hn1 ((hr.below b (Nat.le_refl _)).more b.size))
  have hF := hid (fun (w1 : World) (b : Below w.heap.size w w1) (x : Int) (x1 : -1000000000 ≤ x) (x2 : x ≤ 1000000000) => landsFrom_any A n c p x w1 x1 x2 hp ((hr.below b (Nat.le_refl _)).more b.size))
  generalize revP p = R at *
  clear hlen hp hr
  go_enter Try.func103, Try.ntmps103
  go_wp2
  go_loopw [3, 9] (fun v i wr => Hid (∃ k : Nat, k ≤ n ∧ i = .int .i64 k ∧ wr.ownsRow w.heap.size 2 1 v (R.take k).length (ints (R.take k)) ∧ Below w.heap.size w wr)) (fun _ i _ => n - (intOf i).toNat)
  case atStart => exact hid ⟨0, Nat.zero_le _, rfl, by rw [← hst.out]; exact World.ownsRow_lit _ _ 0 (Nat.le_refl _) (by simp [maxLen]) rfl, (by repeat' (first | exact Below.refl _ _ | (with_reducible assumption) | (with_reducible refine Below.alloc ?_ ?_ _) | (with_reducible refine Below.setCell ?_ ?_ _) | (with_reducible refine Below.drew ?_) | (with_reducible refine below_drewN ?_ _) | (refine Below.trans ?_ (Below.mono (by assumption) ?_)) | (with_reducible exact Nat.le_refl _) | (with_reducible assumption) | (exact Below.size (by assumption)) | omega | go_size | (simp at *; omega)))⟩
  case round =>
    obtain ⟨k, hk, rfl, ho, hb0⟩ := hrel.out
    have hkl : (R.take k).length ≤ 12 := by rw [List.length_take]; omega
    have hz := hb0.size
    by_cases hlt : k < n
    · have hs := hid (hstep.out k hlt)
      have hC := hid (hF.out wr hb0 ((n : Int) - 1 - (k : Int)) (by omega) (by omega))
      generalize lf p ((n : Int) - 1 - (k : Int)) = y at *
      have hD := hid (fun (w1 : World) (b : Below wr.heap.size wr w1) => hT.out w1 (bchain hb0 b) y)
      generalize atB p y = x at *
      go_wp2_with (first | (go_at_call 107; refine (period_any _ _ _ _ (by omega)).mono ?_; rintro e w' ⟨rfl, rfl⟩) | (go_at_call 117; refine hC.out.mono ?_; rintro e w1 ⟨rfl, hb1⟩; have ho1 := own_below ho hb1; have hz1 := hb1.size) | (go_at_call 116; refine (hD.out _ hb1).mono ?_; rintro e w' ⟨rfl, rfl⟩) | (at_builtin; refine push_int ho1 x _ Try.underlying22 inf_int rfl rfl _ _ rfl rfl rfl (by omega) (by omega) ?_; intro v2 w2 ho2 hb2 hg2))
      go_roundw
      case rel => exact hid ⟨k + 1, by omega, by go_num, by rw [hs.out]; exact ho2, (by repeat' (first | exact Below.refl _ _ | (with_reducible assumption) | (with_reducible refine Below.alloc ?_ ?_ _) | (with_reducible refine Below.setCell ?_ ?_ _) | (with_reducible refine Below.drew ?_) | (with_reducible refine below_drewN ?_ _) | (refine Below.trans ?_ (Below.mono (by assumption) ?_)) | (with_reducible exact Nat.le_refl _) | (with_reducible assumption) | (exact Below.size (by assumption)) | omega | go_size | (simp at *; omega)))⟩
      case measure => simp [intOf]; omega
    · have hkn : k = n := by omega
      subst hkn
      rw [List.take_of_length_le (by omega)] at ho
      go_wp2
      go_ret
      exact ⟨_, rfl, ho, hb0⟩
theorem ReversePattern_ok (A : Option Addr) (n c : Nat) (p : List Int) (w : World) (hp : okP p = true) (hr : Rd w w.heap.size 1 A n (ints p)) :
    Calls Try.prog 41 #[.slice A n c] w fun e w' => ∃ v, e = .returned (.tuple #[v, .int .i64 0]) ∧ w'.ownsRow w.heap.size 2 1 v (revP p).length (ints (revP p)) ∧ Below w.heap.size w w' := by
  have hn2 := (thOk_iff (okP_th hp)).2.2
  have hlen := hr.len
  have hC := ValidPattern_any A n c p w (by omega) hr
  rw [hp] at hC
  have hC := hid hC
  have hR := hid (fun (w1 : World) (b : Below w.heap.size w w1) => reversed_ok A n c p w1 hp ((hr.below b (Nat.le_refl _)).more b.size))
  clear hp hr hn2 hlen
  go_enter Try.func41, Try.ntmps41
  go_wp2_with (first | (go_at_call 64; refine (hC.out).mono ?_; rintro e w1 ⟨rfl, hb1⟩; first | (have hk1 := bchain (by assumption) hb1; obtain ⟨hc1, hf1, hz1, hl1⟩ := bcell hk1) | (obtain ⟨hc1, hf1, hz1, hl1⟩ := bcell hb1)) | (go_at_call 103; refine (hR.out _ hb1).mono ?_; rintro e w2 ⟨v2, rfl, ho2, hb2⟩))
  go_ret2
  exact ⟨_, rfl, own_more ho2 hb1.size, (by repeat' (first | exact Below.refl _ _ | (with_reducible assumption) | (with_reducible refine Below.alloc ?_ ?_ _) | (with_reducible refine Below.setCell ?_ ?_ _) | (with_reducible refine Below.drew ?_) | (with_reducible refine below_drewN ?_ _) | (refine Below.trans ?_ (Below.mono (by assumption) ?_)) | (with_reducible exact Nat.le_refl _) | (with_reducible assumption) | (exact Below.size (by assumption)) | omega | go_size | (simp at *; omega)))⟩
theorem isIndex_ok (A : Option Addr) (n c : Nat) (i : Nat) (w : World) (hn : n ≤ 1099511627776) (hi : i < n) :
    Calls Try.prog 104 #[.slice A n c, .int .i64 (i : Int)] w fun e w' => e = .returned (.bool true) ∧ w = w' := by
  have hb := between_any (i : Int) 0 ((n : Int) - 1) w
  have hq : betweenB (i : Int) 0 ((n : Int) - 1) = true := by rw [betweenB_iff]; omega
  rw [hq] at hb
  have hb := hid hb
  clear hq
  go_enter Try.func104, Try.ntmps104
  go_wp2_with (first | (go_at_call 107; refine (period_any _ _ _ _ hn).mono ?_; rintro e w' ⟨rfl, rfl⟩) | (go_at_call 79; refine (hb.out).mono ?_; rintro e w' ⟨rfl, rfl⟩))
  go_ret
  exact ⟨rfl, rfl⟩
theorem ShiftThrows_ok (A : Option Addr) (n c : Nat) (p : List Int) (d : Int) (w : World) (b1 : -15 ≤ d) (b2 : d ≤ 15) (hp : okP p = true) (hr : Rd w w.heap.size 1 A n (ints p)) :
    Calls Try.prog 49 #[.slice A n c, .int .i64 d] w fun e w' => Below w.heap.size w w' ∧ ThRes w.heap.size (shiftP p d) e w' := by
  have hlen := hr.len
  obtain ⟨hbd, hn1, hn2⟩ := thOk_iff (okP_th hp)
  rw [hlen] at hn1 hn2
  have hbd := hid hbd
  have hst : Hid (([] : List Int) = (shiftP p d).take 0) := by show _ = _; simp
  have hstep := hid (fun (k : Nat) (y : Int) (h : p[k]? = some y) => show (shiftP p d).take (k + 1) = (shiftP p d).take k ++ [y + d] from by
    obtain ⟨hk, e⟩ := List.getElem?_eq_some_iff.1 h
    rw [List.take_succ_eq_append_getElem (by rw [shiftP_len]; exact hk)]
    simp [shiftP, e])
  have hRl : Hid ((shiftP p d).length = n) := by show _ = _; rw [shiftP_len, hlen]
  have hV := ValidPattern_any A n c p w (by omega) hr
  rw [hp] at hV
  have hV := hid hV
  have hB := between_any d (-15) 15 
  have hq : betweenB d (-15) 15 = true := by rw [betweenB_iff]; omega
  rw [hq] at hB
  have hB := hid hB
  have HR := hid hr
  generalize shiftP p d = R at *
  clear hlen hp hr hq
  go_enter Try.func49, Try.ntmps49
  go_wp2_with (first | (go_at_call 64; refine (hV.out).mono ?_; rintro e w1 ⟨rfl, hb1⟩; first | (have hk1 := bchain (by assumption) hb1; obtain ⟨hc1, hf1, hz1, hl1⟩ := bcell hk1) | (obtain ⟨hc1, hf1, hz1, hl1⟩ := bcell hb1)) | (go_at_call 79; refine (hB.out _).mono ?_; rintro e w' ⟨rfl, rfl⟩))
  go_loopw [6, 18] (fun v i wr => Hid (∃ k : Nat, k ≤ n ∧ i = .int .i64 k ∧ wr.ownsRow w.heap.size 2 1 v (R.take k).length (ints (R.take k)) ∧ Below w.heap.size w wr)) (fun _ i _ => n - (intOf i).toNat)
  case atStart => exact hid ⟨0, Nat.zero_le _, rfl, by rw [← hst.out]; exact World.ownsRow_lit _ _ 0 (by first | exact hb1.size | omega) (by simp [maxLen]) rfl, (by repeat' (first | exact Below.refl _ _ | (with_reducible assumption) | (with_reducible refine Below.alloc ?_ ?_ _) | (with_reducible refine Below.setCell ?_ ?_ _) | (with_reducible refine Below.drew ?_) | (with_reducible refine below_drewN ?_ _) | (refine Below.trans ?_ (Below.mono (by assumption) ?_)) | (with_reducible exact Nat.le_refl _) | (with_reducible assumption) | (exact Below.size (by assumption)) | omega | go_size | (simp at *; omega)))⟩
  case round =>
    obtain ⟨k, hk, rfl, ho, hb0⟩ := hrel.out
    have hkl : (R.take k).length ≤ 12 := by rw [List.length_take]; omega
    have hz := hb0.size
    by_cases hlt : k < n
    · obtain ⟨b, off, y, rfl, hb, hy, _, hc⟩ := (HR.out.below hb0 (Nat.le_refl _)).at_ hlt
      have hs := hid (hstep.out k y hy)
      obtain ⟨y0, y1⟩ := hbd.out y (List.mem_of_getElem? hy)
      clear hy hb
      go_wp2_with (at_builtin; refine push_int ho (y + d) _ Try.underlying22 inf_int rfl rfl _ _ rfl rfl rfl (by omega) (by omega) ?_; intro v1 w1 ho1 hb1 hg1)
      go_roundw
      case rel => exact hid ⟨k + 1, by omega, by go_num, by rw [hs.out]; exact ho1, (by repeat' (first | exact Below.refl _ _ | (with_reducible assumption) | (with_reducible refine Below.alloc ?_ ?_ _) | (with_reducible refine Below.setCell ?_ ?_ _) | (with_reducible refine Below.drew ?_) | (with_reducible refine below_drewN ?_ _) | (refine Below.trans ?_ (Below.mono (by assumption) ?_)) | (with_reducible exact Nat.le_refl _) | (with_reducible assumption) | (exact Below.size (by assumption)) | omega | go_size | (simp at *; omega)))⟩
      case measure => simp [intOf]; omega
    · have hkn : k = n := by omega
      subst hkn
      rw [List.take_of_length_le (by have := hRl.out; omega)] at ho
      obtain ⟨A6, c6, rfl⟩ := own_form ho
      have hT := areThrows_any A6 R.length c6 R wr (by have := hRl.out; omega) (Rd.of_own ho)
      cases hth : thOk R with
      | true =>
        rw [hth] at hT
        have hT := hid hT
        have HTH := hid hth
        clear hth
        go_wp2_with (go_at_call 105; refine (hT.out).mono ?_; rintro e w' ⟨rfl, rfl⟩)
        go_ret2
        exact ⟨hb0, .inl ⟨HTH.out, _, rfl, ho⟩⟩
      | false =>
        rw [hth] at hT
        have hT := hid hT
        have HTH := hid hth
        clear hth
        go_wp2_with (go_at_call 105; refine (hT.out).mono ?_; rintro e w' ⟨rfl, rfl⟩)
        go_ret2
        exact ⟨hb0, .inr ⟨HTH.out, rfl⟩⟩
theorem DualPattern_ok (A : Option Addr) (n c : Nat) (p : List Int) (d : Int) (w : World) (b1 : hiT p ≤ d) (b2 : d ≤ 15) (hp : okP p = true) (hr : Rd w w.heap.size 1 A n (ints p)) :
    Calls Try.prog 50 #[.slice A n c, .int .i64 d] w fun e w' => ∃ v, e = .returned (.tuple #[v, .int .i64 0]) ∧ w'.ownsRow w.heap.size 2 1 v (dualP p d).length (ints (dualP p d)) ∧ Below w.heap.size w w' := by
  have hlen := hr.len
  obtain ⟨hbd, hn1, hn2⟩ := thOk_iff (okP_th hp)
  rw [hlen] at hn1 hn2
  have hH := hid (fun (w1 : World) (b : Below w.heap.size w w1) => highest_any A n c p w1 (by omega) hbd ((hr.below b (Nat.le_refl _)).more b.size))
  have hbd := hid hbd
  have h0 := (hiT_bd (okP_th hp)).1
  have hst : Hid (([] : List Int) = (dualP p d).take 0) := by show _ = _; simp
  have hstep := hid (fun (k j : Nat) (y : Int) (hk : k < n) (hj : (j : Int) = (n : Int) - 1 - (k : Int)) (h : p[j]? = some y) => show (dualP p d).take (k + 1) = (dualP p d).take k ++ [d - y] from by
    have h1 := mkL_step (n := p.length) (f := fun x => d - atB p ((p.length : Int) - 1 - x)) (k := k) (by omega)
    have h2 : atB p ((p.length : Int) - 1 - (k : Int)) = y := by
      rw [show (p.length : Int) - 1 - (k : Int) = (j : Int) by omega, atB_lt' (List.getElem?_eq_some_iff.1 h).1, List.getD_eq_getElem?_getD, h]; rfl
    rw [show dualP p d = mkL p.length (fun x => d - atB p ((p.length : Int) - 1 - x)) from rfl, h1, h2])
  have hRl : (dualP p d).length = n := by rw [dualP_len, hlen]
  have hV := ValidPattern_any A n c p w (by omega) hr
  rw [hp] at hV
  have hV := hid hV
  have hB := between_any d (hiT p) 15
  have hq : betweenB d (hiT p) 15 = true := by rw [betweenB_iff]; omega
  rw [hq] at hB
  have hB := hid hB
  have HR := hid hr
  generalize dualP p d = R at *
  generalize hiT p = M at *
  clear hlen hp hr hq
  go_enter Try.func50, Try.ntmps50
  go_wp2_with (first | (go_at_call 64; refine (hV.out).mono ?_; rintro e w1 ⟨rfl, hb1⟩; first | (have hk1 := bchain (by assumption) hb1; obtain ⟨hc1, hf1, hz1, hl1⟩ := bcell hk1) | (obtain ⟨hc1, hf1, hz1, hl1⟩ := bcell hb1)) | (go_at_call 108; refine (hH.out _ hb1).mono ?_; rintro e w' ⟨rfl, rfl⟩) | (go_at_call 79; refine (hB.out _).mono ?_; rintro e w' ⟨rfl, rfl⟩))
  go_loopw [6, 19] (fun v i wr => Hid (∃ k : Nat, k ≤ n ∧ i = .int .i64 k ∧ wr.ownsRow w.heap.size 2 1 v (R.take k).length (ints (R.take k)) ∧ Below w.heap.size w wr)) (fun _ i _ => n - (intOf i).toNat)
  case atStart => exact hid ⟨0, Nat.zero_le _, rfl, by rw [← hst.out]; exact World.ownsRow_lit _ _ 0 (by first | exact hb1.size | omega) (by simp [maxLen]) rfl, (by repeat' (first | exact Below.refl _ _ | (with_reducible assumption) | (with_reducible refine Below.alloc ?_ ?_ _) | (with_reducible refine Below.setCell ?_ ?_ _) | (with_reducible refine Below.drew ?_) | (with_reducible refine below_drewN ?_ _) | (refine Below.trans ?_ (Below.mono (by assumption) ?_)) | (with_reducible exact Nat.le_refl _) | (with_reducible assumption) | (exact Below.size (by assumption)) | omega | go_size | (simp at *; omega)))⟩
  case round =>
    obtain ⟨k, hk, rfl, ho, hb0⟩ := hrel.out
    have hkl : (R.take k).length ≤ 12 := by rw [List.length_take]; omega
    have hz := hb0.size
    by_cases hlt : k < n
    · obtain ⟨j, hj⟩ : ∃ j : Nat, (n : Int) - 1 - (k : Int) = (j : Int) := ⟨n - 1 - k, by omega⟩
      obtain ⟨b, off, y, rfl, hb, hy, _, hc⟩ := (HR.out.below hb0 (Nat.le_refl _)).at_ (show j < n by omega)
      have hs := hid (hstep.out k j y hlt hj.symm hy)
      obtain ⟨y0, y1⟩ := hbd.out y (List.mem_of_getElem? hy)
      have hjn : (j : Int) < (n : Int) := by omega
      clear hy hb
      go_wp2_with (at_builtin; refine push_int ho (d - y) _ Try.underlying22 inf_int rfl rfl _ _ rfl rfl rfl (by omega) (by omega) ?_; intro v1 w1 ho1 hb1 hg1)
      go_roundw
      case rel => exact hid ⟨k + 1, by omega, by go_num, by rw [hs.out]; exact ho1, (by repeat' (first | exact Below.refl _ _ | (with_reducible assumption) | (with_reducible refine Below.alloc ?_ ?_ _) | (with_reducible refine Below.setCell ?_ ?_ _) | (with_reducible refine Below.drew ?_) | (with_reducible refine below_drewN ?_ _) | (refine Below.trans ?_ (Below.mono (by assumption) ?_)) | (with_reducible exact Nat.le_refl _) | (with_reducible assumption) | (exact Below.size (by assumption)) | omega | go_size | (simp at *; omega)))⟩
      case measure => simp [intOf]; omega
    · have hkn : k = n := by omega
      subst hkn
      rw [List.take_of_length_le (by omega)] at ho
      go_wp2
      go_ret2
      exact ⟨_, rfl, ho, hb0⟩
theorem DualPattern_no (A : Option Addr) (n c : Nat) (p : List Int) (d : Int) (w : World) (b2 : 15 < d) (b3 : d ≤ 1000) (hp : okP p = true) (hr : Rd w w.heap.size 1 A n (ints p)) :
    Calls Try.prog 50 #[.slice A n c, .int .i64 d] w fun e w' => e = .returned (.tuple #[.slice none 0 0, .int .i64 2]) ∧ Below w.heap.size w w' := by
  have hlen := hr.len
  obtain ⟨hbd, hn1, hn2⟩ := thOk_iff (okP_th hp)
  rw [hlen] at hn1 hn2
  have hH := hid (fun (w1 : World) (b : Below w.heap.size w w1) => highest_any A n c p w1 (by omega) hbd ((hr.below b (Nat.le_refl _)).more b.size))
  have hV := ValidPattern_any A n c p w (by omega) hr
  rw [hp] at hV
  have hV := hid hV
  have hB := between_any d (hiT p) 15
  have hq : betweenB d (hiT p) 15 = false := by
    cases h : betweenB d (hiT p) 15 with
    | false => rfl
    | true => rw [betweenB_iff] at h; omega
  rw [hq] at hB
  have hB := hid hB
  generalize hiT p = M at *
  clear hlen hp hr hq hbd
  go_enter Try.func50, Try.ntmps50
  go_wp2_with (first | (go_at_call 64; refine (hV.out).mono ?_; rintro e w1 ⟨rfl, hb1⟩; first | (have hk1 := bchain (by assumption) hb1; obtain ⟨hc1, hf1, hz1, hl1⟩ := bcell hk1) | (obtain ⟨hc1, hf1, hz1, hl1⟩ := bcell hb1)) | (go_at_call 108; refine (hH.out _ hb1).mono ?_; rintro e w' ⟨rfl, rfl⟩) | (go_at_call 79; refine (hB.out _).mono ?_; rintro e w' ⟨rfl, rfl⟩))
  go_ret2
  exact ⟨rfl, (by repeat' (first | exact Below.refl _ _ | (with_reducible assumption) | (with_reducible refine Below.alloc ?_ ?_ _) | (with_reducible refine Below.setCell ?_ ?_ _) | (with_reducible refine Below.drew ?_) | (with_reducible refine below_drewN ?_ _) | (refine Below.trans ?_ (Below.mono (by assumption) ?_)) | (with_reducible exact Nat.le_refl _) | (with_reducible assumption) | (exact Below.size (by assumption)) | omega | go_size | (simp at *; omega)))⟩
theorem SwapLandings_ok (A : Option Addr) (n c : Nat) (p : List Int) (i k : Nat) (w : World) (hi : i < n) (hk : k < n) (hp : okP p = true) (hr : Rd w w.heap.size 1 A n (ints p)) :
    Calls Try.prog 45 #[.slice A n c, .int .i64 (i : Int), .int .i64 (k : Int)] w fun e w' => Below w.heap.size w w' ∧ ThRes w.heap.size (swapP p i k) e w' := by
  have hlen := hr.len
  obtain ⟨hbd, hn1, hn2⟩ := thOk_iff (okP_th hp)
  rw [hlen] at hn1 hn2
  have hA : A = none → c = 0 := by
    obtain ⟨b, off, e, _⟩ := hr.2 (by omega)
    intro h; rw [h] at e; cases e
  have hV := ValidPattern_any A n c p w (by omega) hr
  rw [hp] at hV
  have hV := hid hV
  have hC := hid (fun (w1 : World) (b : Below w.heap.size w w1) => copyNumbers_any A n c p w1 (by omega) hA ((hr.below b (Nat.le_refl _)).more b.size))
  obtain ⟨x, hx⟩ : ∃ x, p.getD i 0 = x := ⟨_, rfl⟩
  obtain ⟨y, hy⟩ : ∃ y, p.getD k 0 = y := ⟨_, rfl⟩
  have hxb := getD_bd (okP_th hp) i
  have hyb := getD_bd (okP_th hp) k
  rw [hx] at hxb
  rw [hy] at hyb
  obtain ⟨x0, x1⟩ := hxb
  obtain ⟨y0, y1⟩ := hyb
  have hSW : Hid ((p.set i (y + (k : Int) - (i : Int))).set k (x + (i : Int) - (k : Int)) = swapP p i k) := by show _ = _; rw [← hx, ← hy]; rfl
  have HRL : Hid ((swapP p i k).length = n) := by show _ = _; rw [swapP_len, hlen]
  have hci := hid (fun (w1 : World) (b : Below w.heap.size w w1) => (hr.below b (Nat.le_refl _)).at_ hi)
  have hck := hid (fun (w1 : World) (b : Below w.heap.size w w1) => (hr.below b (Nat.le_refl _)).at_ hk)
  have HX := hid hx
  have HY := hid hy
  have HL := hid hlen
  generalize swapP p i k = R at *
  clear hp hr hbd hA hx hy hlen
  go_enter Try.func45, Try.ntmps45
  go_wp2_with (first | (go_at_call 64; refine (hV.out).mono ?_; rintro e w1 ⟨rfl, hb1⟩; first | (have hk1 := bchain (by assumption) hb1; obtain ⟨hc1, hf1, hz1, hl1⟩ := bcell hk1) | (obtain ⟨hc1, hf1, hz1, hl1⟩ := bcell hb1)) | (go_at_call 104; refine (isIndex_ok _ _ _ _ _ (by omega) (by omega)).mono ?_; rintro e w' ⟨rfl, rfl⟩) | (go_at_call 96; refine (hC.out _ hb1).mono ?_; rintro e w2 ⟨v2, rfl, ho2, hb2⟩))
  have hz1 := hb1.size
  have hB2 : Below w.heap.size w w2 := bchain hb1 hb2
  have hz2 := hB2.size
  obtain ⟨gv, cv, rfl, hgv, hgv2⟩ := own_blk ho2 (by omega)
  obtain ⟨b, off, x', hAe, hb, hx', _, hcx⟩ := hci.out w2 hB2
  obtain ⟨b', off', y', hAe', hb', hy', _, hcy⟩ := hck.out w2 hB2
  subst hAe
  injection hAe' with hAe'
  injection hAe' with e1 e2
  subst e1 e2
  have hxx : x' = x := by have := HX.out; rw [List.getD_eq_getElem?_getD, hx'] at this; exact this
  have hyy : y' = y := by have := HY.out; rw [List.getD_eq_getElem?_getD, hy'] at this; exact this
  subst hxx hyy
  have hLp : p.length = n := HL.out
  obtain ⟨ui, hui⟩ : ∃ u, w2.cell? ⟨gv, i, none⟩ = some u := by
    rw [ho2.cellAt i (by omega)]
    exact ⟨_, List.getElem?_eq_getElem (by simp [ints]; omega)⟩
  have hfi := ho2.frozenAt i
  obtain ⟨ho3, hg3⟩ := ho2.stored i (.int .i64 (y' + (k : Int) - (i : Int)))
  rw [intsSet] at ho3
  obtain ⟨uk, huk⟩ : ∃ u, (w2.setCell ⟨gv, i, none⟩ (.int .i64 (y' + (k : Int) - (i : Int)))).cell? ⟨gv, k, none⟩ = some u := by
    rw [ho3.cellAt k (by omega)]
    exact ⟨_, List.getElem?_eq_getElem (by simp [ints]; omega)⟩
  have hfk := ho3.frozenAt k
  obtain ⟨ho4, hg4⟩ := ho3.stored k (.int .i64 (x' + (i : Int) - (k : Int)))
  rw [intsSet, hSW.out] at ho4
  have HO4 := hid ho4
  clear hx' hy' ho2 ho3 ho4 hg3 hg4 hb1 hb2 hLp
  go_region
  go_simp
  obtain ⟨w4, hw4⟩ : ∃ w4, w4 = ((w2.setCell ⟨gv, i, none⟩ (.int .i64 (y' + (k : Int) - (i : Int)))).setCell ⟨gv, k, none⟩ (.int .i64 (x' + (i : Int) - (k : Int)))).drew := ⟨_, rfl⟩
  have ho4 : w4.ownsRow w1.heap.size 2 1 (.slice (some ⟨gv, 0, none⟩) n cv) n (ints R) := by rw [hw4]; exact HO4.out
  have hB4 : Below w.heap.size w w4 := by rw [hw4]; exact (by repeat' (first | exact Below.refl _ _ | (with_reducible assumption) | (with_reducible refine Below.alloc ?_ ?_ _) | (with_reducible refine Below.setCell ?_ ?_ _) | (with_reducible refine Below.drew ?_) | (with_reducible refine below_drewN ?_ _) | (refine Below.trans ?_ (Below.mono (by assumption) ?_)) | (with_reducible exact Nat.le_refl _) | (with_reducible assumption) | (exact Below.size (by assumption)) | omega | go_size | (simp at *; omega)))
  have hT := areThrows_any (some ⟨gv, 0, none⟩) n cv R w4 (by omega) (Rd.of_own ho4)
  rw [← hw4]
  clear hw4 HO4
  cases hth : thOk R with
  | true =>
    rw [hth] at hT
    have hT := hid hT
    have HTH := hid hth
    clear hth
    go_wp2_with (go_at_call 105; refine (hT.out).mono ?_; rintro e w' ⟨rfl, rfl⟩)
    go_ret2
    exact ⟨hB4, .inl ⟨HTH.out, _, rfl, by rw [HRL.out]; exact own_more ho4 hz1⟩⟩
  | false =>
    rw [hth] at hT
    have hT := hid hT
    have HTH := hid hth
    clear hth
    go_wp2_with (go_at_call 105; refine (hT.out).mono ?_; rintro e w' ⟨rfl, rfl⟩)
    go_ret2
    exact ⟨hB4, .inr ⟨HTH.out, rfl⟩⟩
theorem RaiseThrow_ok (A : Option Addr) (n c : Nat) (p : List Int) (i : Nat) (w : World) (hi : i < n) (hp : okP p = true) (hr : Rd w w.heap.size 1 A n (ints p)) (hx : p.getD i 0 + (n : Int) ≤ 15) :
    Calls Try.prog 48 #[.slice A n c, .int .i64 (i : Int)] w fun e w' => ∃ v, e = .returned (.tuple #[v, .int .i64 0]) ∧ w'.ownsRow w.heap.size 2 1 v (raiseP p i).length (ints (raiseP p i)) ∧ Below w.heap.size w w' := by
  have hlen := hr.len
  obtain ⟨hbd, hn1, hn2⟩ := thOk_iff (okP_th hp)
  rw [hlen] at hn1 hn2
  have hA : A = none → c = 0 := by
    obtain ⟨b, off, e, _⟩ := hr.2 (by omega)
    intro h; rw [h] at e; cases e
  have hV := ValidPattern_any A n c p w (by omega) hr
  rw [hp] at hV
  have hV := hid hV
  have hC := hid (fun (w1 : World) (b : Below w.heap.size w w1) => copyNumbers_any A n c p w1 (by omega) hA ((hr.below b (Nat.le_refl _)).more b.size))
  obtain ⟨x, hxe⟩ : ∃ x, p.getD i 0 = x := ⟨_, rfl⟩
  have hxb := getD_bd (okP_th hp) i
  rw [hxe] at hxb hx
  obtain ⟨x0, x1⟩ := hxb
  have hSW : Hid (p.set i (x + (n : Int)) = raiseP p i) := by show _ = _; rw [← hxe, ← hlen]; rfl
  have HRL : Hid ((raiseP p i).length = n) := by show _ = _; rw [raiseP_len, hlen]
  have hci := hid (fun (w1 : World) (b : Below w.heap.size w w1) => (hr.below b (Nat.le_refl _)).at_ hi)
  have HX := hid hxe
  generalize raiseP p i = R at *
  clear hp hr hbd hA hxe
  go_enter Try.func48, Try.ntmps48
  go_wp2_with (first | (go_at_call 64; refine (hV.out).mono ?_; rintro e w1 ⟨rfl, hb1⟩; first | (have hk1 := bchain (by assumption) hb1; obtain ⟨hc1, hf1, hz1, hl1⟩ := bcell hk1) | (obtain ⟨hc1, hf1, hz1, hl1⟩ := bcell hb1)))
  have hz1 := hb1.size
  obtain ⟨b, off, x', rfl, hb, hx', _, hcx⟩ := hci.out w1 hb1
  have hcw : w.cell? ⟨b, off + i, none⟩ = some (.int .i64 x') := by rw [← hc1 b (off + i) hb]; exact hcx
  have hxx : x' = x := by have := HX.out; rw [List.getD_eq_getElem?_getD, hx'] at this; exact this
  subst hxx
  clear hx'
  have hI := hid (fun (w1 : World) => isIndex_ok (some ⟨b, off, none⟩) n c i w1 (by omega) hi)
  have hP := hid (fun (w1 : World) => period_any (some ⟨b, off, none⟩) n c w1 (by omega))
  have hxn : decide (15 < x' + (n : Int)) = false := by simp; omega
  go_quiet (first | ((go_at_call 104; exact quiet_same (hI.out _))) | ((go_at_call 107; exact quiet_same (hP.out _))))
  have hbd : Below w.heap.size w (w1.drewN nq) := (by repeat' (first | exact Below.refl _ _ | (with_reducible assumption) | (with_reducible refine Below.alloc ?_ ?_ _) | (with_reducible refine Below.setCell ?_ ?_ _) | (with_reducible refine Below.drew ?_) | (with_reducible refine below_drewN ?_ _) | (refine Below.trans ?_ (Below.mono (by assumption) ?_)) | (with_reducible exact Nat.le_refl _) | (with_reducible assumption) | (exact Below.size (by assumption)) | omega | go_size | (simp at *; omega)))
  go_wp2_with (first | (go_at_call 96; refine (hC.out _ ?_).mono ?_; (exact (by repeat' (first | exact Below.refl _ _ | (with_reducible assumption) | (with_reducible refine Below.alloc ?_ ?_ _) | (with_reducible refine Below.setCell ?_ ?_ _) | (with_reducible refine Below.drew ?_) | (with_reducible refine below_drewN ?_ _) | (refine Below.trans ?_ (Below.mono (by assumption) ?_)) | (with_reducible exact Nat.le_refl _) | (with_reducible assumption) | (exact Below.size (by assumption)) | omega | go_size | (simp at *; omega)))); rintro e w2 ⟨v2, rfl, ho2, hb2⟩))
  obtain ⟨gv, cv, rfl, hgv, hgv2⟩ := own_blk ho2 (by omega)
  have hz2 := hb2.size
  have hzd : w.heap.size ≤ (w1.drewN nq).heap.size := hbd.size
  have hwr : IntKind.i64.wrap (x' + (n : Int)) = x' + (n : Int) := IntWalk.i64_in _ (by omega)
  have hcell2 : w2.cell? ⟨gv, i, none⟩ = some (.int .i64 x') := by
    rw [ho2.cellAt i (by omega), ints, List.getElem?_map]
    have := HX.out
    rw [List.getD_eq_getElem?_getD] at this
    cases hpi : p[i]? with
    | none => have := List.getElem?_eq_none_iff.1 hpi; omega
    | some z => rw [hpi] at this; simp at this; subst this; rfl
  have hfi := ho2.frozenAt i
  obtain ⟨ho3, hg3⟩ := ho2.stored i (.int .i64 (x' + (n : Int)))
  rw [intsSet, hSW.out] at ho3
  have HO3 := hid ho3
  have HB2 : Below w.heap.size w w2 := bchain hbd hb2
  clear ho2 ho3 hg3 hb2 hlen
  go_region_with (go_at_call 107; refine (hP.out _).mono ?_; rintro e w' ⟨rfl, rfl⟩)
  all_goals
    go_simp
    go_wp2
    go_ret2
    refine ⟨_, rfl, ?_, (by repeat' (first | exact Below.refl _ _ | (with_reducible assumption) | (with_reducible refine Below.alloc ?_ ?_ _) | (with_reducible refine Below.setCell ?_ ?_ _) | (with_reducible refine Below.drew ?_) | (with_reducible refine below_drewN ?_ _) | (refine Below.trans ?_ (Below.mono (by assumption) ?_)) | (with_reducible exact Nat.le_refl _) | (with_reducible assumption) | (exact Below.size (by assumption)) | omega | go_size | (simp at *; omega)))⟩
    rw [HRL.out]
    exact own_more HO3.out hzd
theorem RaiseThrow_no (A : Option Addr) (n c : Nat) (p : List Int) (i : Nat) (w : World) (hi : i < n) (hp : okP p = true) (hr : Rd w w.heap.size 1 A n (ints p)) (hx : ¬ p.getD i 0 + (n : Int) ≤ 15) :
    Calls Try.prog 48 #[.slice A n c, .int .i64 (i : Int)] w fun e w' => e = .returned (.tuple #[.slice none 0 0, .int .i64 2]) ∧ Below w.heap.size w w' := by
  have hlen := hr.len
  obtain ⟨hbd, hn1, hn2⟩ := thOk_iff (okP_th hp)
  rw [hlen] at hn1 hn2
  have hV := ValidPattern_any A n c p w (by omega) hr
  rw [hp] at hV
  have hV := hid hV
  obtain ⟨x, hxe⟩ : ∃ x, p.getD i 0 = x := ⟨_, rfl⟩
  have hxb := getD_bd (okP_th hp) i
  rw [hxe] at hxb hx
  obtain ⟨x0, x1⟩ := hxb
  have hci := hid (fun (w1 : World) (b : Below w.heap.size w w1) => (hr.below b (Nat.le_refl _)).at_ hi)
  have HX := hid hxe
  clear hp hr hbd hxe
  go_enter Try.func48, Try.ntmps48
  go_wp2_with (first | (go_at_call 64; refine (hV.out).mono ?_; rintro e w1 ⟨rfl, hb1⟩; first | (have hk1 := bchain (by assumption) hb1; obtain ⟨hc1, hf1, hz1, hl1⟩ := bcell hk1) | (obtain ⟨hc1, hf1, hz1, hl1⟩ := bcell hb1)))
  have hz1 := hb1.size
  obtain ⟨b, off, x', rfl, hb, hx', _, hcx⟩ := hci.out w1 hb1
  have hcw : w.cell? ⟨b, off + i, none⟩ = some (.int .i64 x') := by rw [← hc1 b (off + i) hb]; exact hcx
  have hxx : x' = x := by have := HX.out; rw [List.getD_eq_getElem?_getD, hx'] at this; exact this
  subst hxx
  clear hx'
  have hI := hid (fun (w1 : World) => isIndex_ok (some ⟨b, off, none⟩) n c i w1 (by omega) hi)
  have hP := hid (fun (w1 : World) => period_any (some ⟨b, off, none⟩) n c w1 (by omega))
  have hxn : decide (15 < x' + (n : Int)) = true := by simp; omega
  go_quiet (first | ((go_at_call 104; exact quiet_same (hI.out _))) | ((go_at_call 107; exact quiet_same (hP.out _))))
  go_wp2
  go_ret2
  exact ⟨rfl, (by repeat' (first | exact Below.refl _ _ | (with_reducible assumption) | (with_reducible refine Below.alloc ?_ ?_ _) | (with_reducible refine Below.setCell ?_ ?_ _) | (with_reducible refine Below.drew ?_) | (with_reducible refine below_drewN ?_ _) | (refine Below.trans ?_ (Below.mono (by assumption) ?_)) | (with_reducible exact Nat.le_refl _) | (with_reducible assumption) | (exact Below.size (by assumption)) | omega | go_size | (simp at *; omega)))⟩
end Go.Proofs.Yteaabniemlnjbaa
