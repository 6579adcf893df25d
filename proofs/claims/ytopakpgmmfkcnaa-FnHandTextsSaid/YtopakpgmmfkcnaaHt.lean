/- Contracts of HandsText, and the walk of its law. -/
import Derived.Test.YtopakpgmmfkcnaaW
import Derived.Test.YtopakpgmmfkcnaaTx
namespace Go.Proofs.Ytopakpgmmfkcnaa
open Go.RowKit
set_option linter.unusedVariables false

theorem inf_u8 : (Try.prog.info? 5).map (fun i => (i.zero, i.size, i.bytes)) = some (some (.int .u8 0), 1, 1) := by kernel_rfl
def rHandsText (p : List Int) : ByteArray := if hdOk p then strOfNums (p.map (97 + ·)) else ⟨#[]⟩
theorem hdOk_mem {p : List Int} (h : hdOk p = true) : (∀ x ∈ p, 0 ≤ x ∧ x ≤ 3) ∧ 1 ≤ p.length ∧ p.length ≤ 12 := by
  simp only [hdOk, Bool.and_eq_true, betweenB_iff, List.all_eq_true] at h
  exact ⟨h.1.1, by omega, by omega⟩
theorem HandsText_any (A : Option Addr) (n c : Nat) (p : List Int) (w : World) (hn : n ≤ 1099511627776) (hr : Rd w w.heap.size 1 A n (ints p)) :
    Calls Try.prog 7 #[.slice A n c] w fun e w' => e = .returned (.string (rHandsText p)) ∧ Below w.heap.size w w' := by
  have hV := ValidHands_any A n c p w hn hr
  have hlen := hr.len
  by_cases k : hdOk p = true
  · rw [k] at hV
    have hV := hid hV
    obtain ⟨q1, q2, q3⟩ := hdOk_mem k
    have Q := hid q1
    have hs : Hid (rHandsText p = strOfNums (p.map (97 + ·))) := by show _ = _; simp [rHandsText, k]
    have hR := hid hr
    have hlen' := hid hlen
    have hn2 : n ≤ 12 := by omega
    clear q1 q2 q3 k hr hlen
    go_enter Try.func7, Try.ntmps7
    go_wp2_with (go_at_call 13; refine hV.out.mono ?_; rintro e w1 ⟨rfl, hb1⟩)
    have hz1 := hb1.size
    go_loopw [3, 12] (fun v i wr => ∃ k : Nat, k ≤ n ∧ i = .int .i64 k ∧ wr.ownsRow w.heap.size 5 1 v ((p.take k).map (97 + ·)).length (byts ((p.take k).map (97 + ·))) ∧ Below w.heap.size w wr) (fun _ i _ => n - (intOf i).toNat)
    case atStart => exact ⟨0, Nat.zero_le _, rfl, World.ownsRow_lit _ _ 0 (by omega) (by simp [maxLen]) rfl, (by repeat' (first | exact Below.refl _ _ | (with_reducible assumption) | (with_reducible refine Below.alloc ?_ ?_ _) | (with_reducible refine Below.setCell ?_ ?_ _) | (with_reducible refine Below.drew ?_) | (with_reducible refine below_drewN ?_ _) | (refine Below.trans ?_ (Below.mono (by assumption) ?_)) | (with_reducible exact Nat.le_refl _) | (with_reducible assumption) | (exact Below.size (by assumption)) | omega | go_size | (simp at *; omega)))⟩
    case round =>
      obtain ⟨k, hk, rfl, ho, hb0⟩ := hrel
      have hB := hb0.size
      have hol : ((p.take k).map (97 + ·)).length ≤ 12 := by rw [List.length_map, List.length_take]; omega
      by_cases hlt : k < n
      · obtain ⟨b, off, x, rfl, hb, hx, hd, hc⟩ := (hR.out.below hb0 (Nat.le_refl _)).at_ hlt
        obtain ⟨x0, x1⟩ := Q.out x (List.mem_of_getElem? hx)
        have HT : Hid ((p.take (k + 1)).map (97 + ·) = (p.take k).map (97 + ·) ++ [97 + x]) := by show _ = _; rw [List.take_add_one, hx]; simp
        generalize (p.take k).map (97 + ·) = out at *
        clear hx hd hb
        go_wp2_with (at_builtin; refine push_u8 ho (97 + x) _ Try.underlying22 inf_u8 rfl rfl _ _ rfl rfl rfl (by omega) hB ?_; intro v2 w2 ho2 hb2 hg2)
        go_roundw
        case rel => exact ⟨k + 1, by omega, by go_num, by rw [HT.out]; exact ho2, (by repeat' (first | exact Below.refl _ _ | (with_reducible assumption) | (with_reducible refine Below.alloc ?_ ?_ _) | (with_reducible refine Below.setCell ?_ ?_ _) | (with_reducible refine Below.drew ?_) | (with_reducible refine below_drewN ?_ _) | (refine Below.trans ?_ (Below.mono (by assumption) ?_)) | (with_reducible exact Nat.le_refl _) | (with_reducible assumption) | (exact Below.size (by assumption)) | omega | go_size | (simp at *; omega)))⟩
        case measure => simp [intOf]; omega
      · have hkn : k = n := by omega
        rw [List.take_of_length_le (by rw [hlen'.out]; omega)] at ho
        obtain ⟨A1, c1, rfl⟩ := own_form ho
        have hcv := string_own ho 22 Try.underlying22 Try.underlying5 9 Try.underlying9
        generalize p.map (97 + ·) = out at *
        clear hkn ho
        go_wp2
        go_ret
        exact ⟨by rw [hs.out]; rfl, (by repeat' (first | exact Below.refl _ _ | (with_reducible assumption) | (with_reducible refine Below.alloc ?_ ?_ _) | (with_reducible refine Below.setCell ?_ ?_ _) | (with_reducible refine Below.drew ?_) | (with_reducible refine below_drewN ?_ _) | (refine Below.trans ?_ (Below.mono (by assumption) ?_)) | (with_reducible exact Nat.le_refl _) | (with_reducible assumption) | (exact Below.size (by assumption)) | omega | go_size | (simp at *; omega)))⟩
  · have k : hdOk p = false := by simpa using k
    rw [k] at hV
    have hV := hid hV
    have hs : Hid (rHandsText p = ⟨#[]⟩) := by show _ = _; simp [rHandsText, k]
    clear k hr hlen
    go_enter Try.func7, Try.ntmps7
    go_wp2_with (go_at_call 13; refine (hV.out).mono ?_; rintro e w1 ⟨rfl, hb1⟩; first | (have hk1 := bchain (by assumption) hb1; obtain ⟨hc1, hf1, hz1, hl1⟩ := bcell hk1) | (obtain ⟨hc1, hf1, hz1, hl1⟩ := bcell hb1))
    go_ret
    exact ⟨by rw [hs.out]; rfl, (by repeat' (first | exact Below.refl _ _ | (with_reducible assumption) | (with_reducible refine Below.alloc ?_ ?_ _) | (with_reducible refine Below.setCell ?_ ?_ _) | (with_reducible refine Below.drew ?_) | (with_reducible refine below_drewN ?_ _) | (refine Below.trans ?_ (Below.mono (by assumption) ?_)) | (with_reducible exact Nat.le_refl _) | (with_reducible assumption) | (exact Below.size (by assumption)) | omega | go_size | (simp at *; omega)))⟩
theorem l14Text_any (A : Option Addr) (n c : Nat) (p : List Int) (w : World) (hp : hdOk p = true) (hr : Rd w w.heap.size 1 A n (ints p)) :
    Calls Try.prog 25 #[.slice A n c] w fun e w' => e = .returned (.string (strOfNums (p.map (97 + ·)))) ∧ Below w.heap.size w w' := by
  have hlen := hr.len
  obtain ⟨q1, q2, q3⟩ := hdOk_mem hp
  have Q := hid q1
  have hlen' := hid hlen
  have hn2 : n ≤ 12 := by omega
  have hR := hid hr
  clear q1 q2 q3 hr hlen hp
  go_enter Try.func25, Try.ntmps25
  go_wp2
  go_loopw [4, 5] (fun v i wr => ∃ k : Nat, k ≤ n ∧ i = .int .i64 k ∧ v = .string (strOfNums ((p.take k).map (97 + ·))) ∧ Below w.heap.size w wr) (fun _ i _ => n - (intOf i).toNat)
  case atStart => exact ⟨0, Nat.zero_le _, rfl, rfl, Below.refl _ _⟩
  case round =>
    obtain ⟨k, hk, rfl, rfl, hb0⟩ := hrel
    have hol : (strOfNums ((p.take k).map (97 + ·))).size ≤ 12 := by rw [strOfNums_size, List.length_map, List.length_take]; omega
    by_cases hlt : k < n
    · obtain ⟨b, off, x, rfl, hb, hx, hd, hc⟩ := (hR.out.below hb0 (Nat.le_refl _)).at_ hlt
      obtain ⟨x0, x1⟩ := Q.out x (List.mem_of_getElem? hx)
      have HT : Hid (strOfNums ((p.take (k + 1)).map (97 + ·)) = strOfNums ((p.take k).map (97 + ·)) ++ strOfNums [97 + x]) := by show _ = _; rw [strOf_append, List.take_add_one, hx]; simp
      generalize strOfNums ((p.take k).map (97 + ·)) = S at *
      clear hx hd hb
      rcases (show x = 0 ∨ x = 1 ∨ x = 2 ∨ x = 3 by omega) with rfl | rfl | rfl | rfl
      all_goals
        go_wp2
        go_quiet (fail)
        go_wp2
        go_roundw
        case rel => exact ⟨k + 1, by omega, by go_num, by rw [HT.out]; rfl, (by repeat' (first | exact Below.refl _ _ | (with_reducible assumption) | (with_reducible refine Below.alloc ?_ ?_ _) | (with_reducible refine Below.setCell ?_ ?_ _) | (with_reducible refine Below.drew ?_) | (with_reducible refine below_drewN ?_ _) | (refine Below.trans ?_ (Below.mono (by assumption) ?_)) | (with_reducible exact Nat.le_refl _) | (with_reducible assumption) | (exact Below.size (by assumption)) | omega | go_size | (simp at *; omega)))⟩
        case measure => simp [intOf]; omega
    · have hkn : k = n := by omega
      rw [List.take_of_length_le (by rw [hlen'.out]; omega)]
      go_wp2
      go_ret
      exact ⟨rfl, (by repeat' (first | exact Below.refl _ _ | (with_reducible assumption) | (with_reducible refine Below.alloc ?_ ?_ _) | (with_reducible refine Below.setCell ?_ ?_ _) | (with_reducible refine Below.drew ?_) | (with_reducible refine below_drewN ?_ _) | (refine Below.trans ?_ (Below.mono (by assumption) ?_)) | (with_reducible exact Nat.le_refl _) | (with_reducible assumption) | (exact Below.size (by assumption)) | omega | go_size | (simp at *; omega)))⟩
theorem specHandsText_any (A : Option Addr) (n c : Nat) (p : List Int) (w : World) (hn : n ≤ 1099511627776) (hr : Rd w w.heap.size 1 A n (ints p)) :
    Calls Try.prog 11 #[.slice A n c] w fun e w' => e = .returned (.string (rHandsText p)) ∧ Below w.heap.size w w' := by
  have hV := l14Ok_any A n c p w hn hr
  by_cases k : hdOk p = true
  · rw [k] at hV
    have hV := hid hV
    have hT := hid (l14Text_any A n c p w k hr)
    have hs : Hid (rHandsText p = strOfNums (p.map (97 + ·))) := by show _ = _; simp [rHandsText, k]
    generalize strOfNums (p.map (97 + ·)) = S at *
    clear k hr
    go_enter Try.func11, Try.ntmps11
    go_wp2_with (first | (go_at_call 29; refine (hV.out).mono ?_; rintro e w' ⟨rfl, rfl⟩) | (go_at_call 25; refine (hT.out).mono ?_; rintro e w1 ⟨rfl, hb1⟩; first | (have hk1 := bchain (by assumption) hb1; obtain ⟨hc1, hf1, hz1, hl1⟩ := bcell hk1) | (obtain ⟨hc1, hf1, hz1, hl1⟩ := bcell hb1)))
    go_ret
    exact ⟨by rw [hs.out]; rfl, (by repeat' (first | exact Below.refl _ _ | (with_reducible assumption) | (with_reducible refine Below.alloc ?_ ?_ _) | (with_reducible refine Below.setCell ?_ ?_ _) | (with_reducible refine Below.drew ?_) | (with_reducible refine below_drewN ?_ _) | (refine Below.trans ?_ (Below.mono (by assumption) ?_)) | (with_reducible exact Nat.le_refl _) | (with_reducible assumption) | (exact Below.size (by assumption)) | omega | go_size | (simp at *; omega)))⟩
  · have k : hdOk p = false := by simpa using k
    rw [k] at hV
    have hV := hid hV
    have hs : Hid (rHandsText p = ⟨#[]⟩) := by show _ = _; simp [rHandsText, k]
    clear k hr
    go_enter Try.func11, Try.ntmps11
    go_wp2_with (go_at_call 29; refine (hV.out).mono ?_; rintro e w' ⟨rfl, rfl⟩)
    go_ret
    exact ⟨by rw [hs.out]; rfl, (by repeat' (first | exact Below.refl _ _ | (with_reducible assumption) | (with_reducible refine Below.alloc ?_ ?_ _) | (with_reducible refine Below.setCell ?_ ?_ _) | (with_reducible refine Below.drew ?_) | (with_reducible refine below_drewN ?_ _) | (refine Below.trans ?_ (Below.mono (by assumption) ?_)) | (with_reducible exact Nat.le_refl _) | (with_reducible assumption) | (exact Below.size (by assumption)) | omega | go_size | (simp at *; omega)))⟩
end Go.Proofs.Ytopakpgmmfkcnaa
