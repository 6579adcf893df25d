/- Contracts of StateText, and the walk of its law. -/
import Derived.Test.YtegapfkmgfcolaaB
import Derived.Test.YtegapfkmgfcolaaE
import Derived.Test.YtegapfkmgfcolaaTx
namespace Go.Proofs.Ytegapfkmgfcolaa
open Go.RowKit
set_option linter.unusedVariables false

theorem inf_u8 : (Try.prog.info? 5).map (fun i => (i.zero, i.size, i.bytes)) = some (some (.int .u8 0), 1, 1) := by kernel_rfl
/-- The characters of the lowest k bits. -/
def btx (m : Int) : Nat → List Int
  | 0 => []
  | k + 1 => btx m k ++ [48 + m / 2 ^ k % 2]
theorem btx_len (m : Int) : ∀ k, (btx m k).length = k := by
  intro k
  induction k with
  | zero => rfl
  | succ k ih => simp [btx, ih]
def rStateText (h m : Int) : ByteArray := if stOk h m then strOfNums (btx m h.toNat) else ⟨#[]⟩
theorem StateText_any (h m : Int) (w : World) :
    Calls Try.prog 29 #[.agg #[.int .i64 h, .int .i64 m]] w fun e w' => e = .returned (.string (rStateText h m)) ∧ Below w.heap.size w w' := by
  by_cases k : stOk h m = true
  · obtain ⟨k1, k2, k3, _, k5⟩ := stOk_iff k
    have hs : Hid (rStateText h m = strOfNums (btx m h.toNat)) := by show _ = _; simp [rStateText, k]
    go_enter Try.func29, Try.ntmps29
    go_wp2_with (go_at_call 17; refine (validState_any _ _ _).mono ?_; rintro e w1 ⟨rfl, hb1⟩; obtain ⟨hc1, hf1, hz1, hl1⟩ := bcell hb1)
    have hBx : Bx w1 w.heap.size 25 #[.int .i64 h, .int .i64 m] := (Bx.new w _ _).below hb1 (by simp)
    have hz2 : w.heap.size + 1 ≤ w1.heap.size := by simpa using hz1
    have hB1 : Below w.heap.size w w1 := (by repeat' (first | exact Below.refl _ _ | (with_reducible assumption) | (with_reducible refine Below.alloc ?_ ?_ _) | (with_reducible refine Below.setCell ?_ ?_ _) | (with_reducible refine Below.drew ?_) | (with_reducible refine below_drewN ?_ _) | (refine Below.trans ?_ (Below.mono (by assumption) ?_)) | (with_reducible exact Nat.le_refl _) | (with_reducible assumption) | (exact Below.size (by assumption)) | omega | go_size | (simp at *; omega)))
    clear hc1 hf1 hz1 hl1 hb1
    go_loopw [3, 11] (fun v i wr => ∃ k : Nat, (k : Int) ≤ h ∧ i = .int .i64 k ∧ wr.ownsRow (w.heap.size + 1) 5 1 v (btx m k).length (byts (btx m k)) ∧ Bx wr w.heap.size 25 #[.int .i64 h, .int .i64 m] ∧ Below w.heap.size w wr ∧ w.heap.size + 1 ≤ wr.heap.size) (fun _ i _ => (h - intOf i).toNat)
    case atStart => exact ⟨0, by omega, rfl, World.ownsRow_lit _ _ 0 hz2 (by simp [maxLen]) rfl, hBx.alloc _, (by repeat' (first | exact Below.refl _ _ | (with_reducible assumption) | (with_reducible refine Below.alloc ?_ ?_ _) | (with_reducible refine Below.setCell ?_ ?_ _) | (with_reducible refine Below.drew ?_) | (with_reducible refine below_drewN ?_ _) | (refine Below.trans ?_ (Below.mono (by assumption) ?_)) | (with_reducible exact Nat.le_refl _) | (with_reducible assumption) | (exact Below.size (by assumption)) | omega | go_size | (simp at *; omega))), by simp; omega⟩
    case round =>
      obtain ⟨k, hk, rfl, ho, hbx, hb0, hz⟩ := hrel
      have hol : (btx m k).length ≤ 10 := by rw [btx_len]; omega
      have q1 : wr.cell? ⟨w.heap.size, 1, none⟩ = some (.int .i64 m) := hbx.cell 1
      by_cases hlt : (k : Int) < h
      · have hp : (1 : Int) ≤ 2 ^ k := by have := (pow_wrap (k : Int) (by omega) (by omega)).2.1; simpa using this
        have hm0 : 0 ≤ m / 2 ^ k := Int.ediv_nonneg k3 (by omega)
        have hm1 : m / 2 ^ k ≤ m := Int.ediv_le_self _ k3
        have hb := bits_one (m / 2 ^ k) hm0 (by omega)
        have HT : Hid (btx m (k + 1) = btx m k ++ [48 + m / 2 ^ k % 2]) := rfl
        have hbd0 : 0 ≤ m / 2 ^ k % 2 := by omega
        have hbd1 : m / 2 ^ k % 2 ≤ 1 := by omega
        generalize btx m k = out at *
        clear hp hm1
        go_wp2_with (at_builtin; refine push_u8 ho (48 + m / 2 ^ k % 2) _ Try.underlying37 inf_u8 rfl rfl _ _ rfl rfl rfl (by omega) hz ?_; intro v2 w2 ho2 hb2 hg2)
        go_roundw
        case rel => exact ⟨k + 1, by omega, by go_num, by rw [HT.out]; exact ho2, hbx.below hb2 (by omega), hb0.trans (hb2.mono (by omega)), by have := hb2.size; omega⟩
        case measure => simp [intOf]; omega
      · have hkh : h.toNat = k := by omega
        have HKH := hid hkh
        obtain ⟨A1, c1, rfl⟩ := own_form ho
        have hcv := string_own ho 37 Try.underlying37 Try.underlying5 9 Try.underlying9
        clear ho hkh
        go_wp2
        go_ret
        exact ⟨by rw [hs.out, HKH.out]; rfl, (by repeat' (first | exact Below.refl _ _ | (with_reducible assumption) | (with_reducible refine Below.alloc ?_ ?_ _) | (with_reducible refine Below.setCell ?_ ?_ _) | (with_reducible refine Below.drew ?_) | (with_reducible refine below_drewN ?_ _) | (refine Below.trans ?_ (Below.mono (by assumption) ?_)) | (with_reducible exact Nat.le_refl _) | (with_reducible assumption) | (exact Below.size (by assumption)) | omega | go_size | (simp at *; omega)))⟩
  · have k : stOk h m = false := by simpa using k
    have hs : Hid (rStateText h m = ⟨#[]⟩) := by show _ = _; simp [rStateText, k]
    go_enter Try.func29, Try.ntmps29
    go_wp2_with (go_at_call 17; refine (validState_any _ _ _).mono ?_; rintro e w1 ⟨rfl, hb1⟩; first | (have hk1 := bchain (by assumption) hb1; obtain ⟨hc1, hf1, hz1, hl1⟩ := bcell hk1) | (obtain ⟨hc1, hf1, hz1, hl1⟩ := bcell hb1))
    go_ret
    exact ⟨by rw [hs.out]; rfl, (by repeat' (first | exact Below.refl _ _ | (with_reducible assumption) | (with_reducible refine Below.alloc ?_ ?_ _) | (with_reducible refine Below.setCell ?_ ?_ _) | (with_reducible refine Below.drew ?_) | (with_reducible refine below_drewN ?_ _) | (refine Below.trans ?_ (Below.mono (by assumption) ?_)) | (with_reducible exact Nat.le_refl _) | (with_reducible assumption) | (exact Below.size (by assumption)) | omega | go_size | (simp at *; omega)))⟩
theorem l08Text_any (h m : Int) (w : World) (k : stOk h m = true) :
    Calls Try.prog 56 #[.agg #[.int .i64 h, .int .i64 m]] w fun e w' => e = .returned (.string (strOfNums (btx m h.toNat))) ∧ Below w.heap.size w w' := by
  obtain ⟨k1, k2, k3, _, k5⟩ := stOk_iff k
  go_enter Try.func56, Try.ntmps56
  go_wp2
  go_loop [3, 4] (fun v i => ∃ k : Nat, (k : Int) ≤ h ∧ i = .int .i64 k ∧ v = .string (strOfNums (btx m k))) (fun _ i => (h - intOf i).toNat)
  case atStart => exact ⟨0, by omega, rfl, rfl⟩
  case round =>
    obtain ⟨k, hk, rfl, rfl⟩ := hrel
    have hol : (strOfNums (btx m k)).size ≤ 10 := by rw [strOfNums_size, btx_len]; omega
    by_cases hlt : (k : Int) < h
    · have hbe := bitB_eq m (k : Int) k3 (by omega)
      rw [Int.toNat_natCast] at hbe
      by_cases hbit : m / 2 ^ k % 2 = 1
      · have hB := hid (l08Bit_any m (k : Int) (w.alloc (Obj.cells #[.int .i64 h, .int .i64 m] 25)) (by omega) (by omega))
        have hB2 : bitB m (k : Int) = true := by rw [hbe, hbit]; rfl
        rw [hB2] at hB
        have hB := hid hB.out
        have HT : Hid (strOfNums (btx m (k + 1)) = strOfNums (btx m k) ++ strOfNums [48 + 1]) := by show _ = _; rw [strOf_append, btx, hbit]
        generalize strOfNums (btx m k) = S at *
        clear hbe hbit hB2
        go_wp2_with (go_at_call 69; refine (hB.out).mono ?_; rintro e w' ⟨rfl, rfl⟩)
        go_round
        case rel => exact ⟨k + 1, by omega, by go_num, by rw [HT.out]; rfl⟩
        case measure => simp [intOf]; omega
      · have hbit : m / 2 ^ k % 2 = 0 := by omega
        have hB := hid (l08Bit_any m (k : Int) (w.alloc (Obj.cells #[.int .i64 h, .int .i64 m] 25)) (by omega) (by omega))
        have hB2 : bitB m (k : Int) = false := by rw [hbe, hbit]; rfl
        rw [hB2] at hB
        have hB := hid hB.out
        have HT : Hid (strOfNums (btx m (k + 1)) = strOfNums (btx m k) ++ strOfNums [48 + 0]) := by show _ = _; rw [strOf_append, btx, hbit]
        generalize strOfNums (btx m k) = S at *
        clear hbe hbit hB2
        go_wp2_with (go_at_call 69; refine (hB.out).mono ?_; rintro e w' ⟨rfl, rfl⟩)
        go_round
        case rel => exact ⟨k + 1, by omega, by go_num, by rw [HT.out]; rfl⟩
        case measure => simp [intOf]; omega
    · have hkh : h.toNat = k := by omega
      have HKH := hid hkh
      clear hkh
      go_wp2
      go_ret
      exact ⟨by rw [HKH.out]; rfl, (by repeat' (first | exact Below.refl _ _ | (with_reducible assumption) | (with_reducible refine Below.alloc ?_ ?_ _) | (with_reducible refine Below.setCell ?_ ?_ _) | (with_reducible refine Below.drew ?_) | (with_reducible refine below_drewN ?_ _) | (refine Below.trans ?_ (Below.mono (by assumption) ?_)) | (with_reducible exact Nat.le_refl _) | (with_reducible assumption) | (exact Below.size (by assumption)) | omega | go_size | (simp at *; omega)))⟩
theorem specStateText_any (h m : Int) (w : World) :
    Calls Try.prog 28 #[.agg #[.int .i64 h, .int .i64 m]] w fun e w' => e = .returned (.string (rStateText h m)) ∧ Below w.heap.size w w' := by
  by_cases k : stOk h m = true
  · have hs : Hid (rStateText h m = strOfNums (btx m h.toNat)) := by show _ = _; simp [rStateText, k]
    have hT := hid (fun (w1 : World) => l08Text_any h m w1 k)
    generalize strOfNums (btx m h.toNat) = S at *
    go_enter Try.func28, Try.ntmps28
    go_wp2_with (first | (go_at_call 45; refine (l08Ok_any _ _ _).mono ?_; rintro e w1 ⟨rfl, hb1⟩; first | (have hk1 := bchain (by assumption) hb1; obtain ⟨hc1, hf1, hz1, hl1⟩ := bcell hk1) | (obtain ⟨hc1, hf1, hz1, hl1⟩ := bcell hb1)) | (go_at_call 56; refine (hT.out _).mono ?_; rintro e w1 ⟨rfl, hb1⟩; first | (have hk1 := bchain (by assumption) hb1; obtain ⟨hc1, hf1, hz1, hl1⟩ := bcell hk1) | (obtain ⟨hc1, hf1, hz1, hl1⟩ := bcell hb1)))
    go_ret
    exact ⟨by rw [hs.out]; rfl, (by repeat' (first | exact Below.refl _ _ | (with_reducible assumption) | (with_reducible refine Below.alloc ?_ ?_ _) | (with_reducible refine Below.setCell ?_ ?_ _) | (with_reducible refine Below.drew ?_) | (with_reducible refine below_drewN ?_ _) | (refine Below.trans ?_ (Below.mono (by assumption) ?_)) | (with_reducible exact Nat.le_refl _) | (with_reducible assumption) | (exact Below.size (by assumption)) | omega | go_size | (simp at *; omega)))⟩
  · have k : stOk h m = false := by simpa using k
    have hs : Hid (rStateText h m = ⟨#[]⟩) := by show _ = _; simp [rStateText, k]
    go_enter Try.func28, Try.ntmps28
    go_wp2_with (go_at_call 45; refine (l08Ok_any _ _ _).mono ?_; rintro e w1 ⟨rfl, hb1⟩; first | (have hk1 := bchain (by assumption) hb1; obtain ⟨hc1, hf1, hz1, hl1⟩ := bcell hk1) | (obtain ⟨hc1, hf1, hz1, hl1⟩ := bcell hb1))
    go_ret
    exact ⟨by rw [hs.out]; rfl, (by repeat' (first | exact Below.refl _ _ | (with_reducible assumption) | (with_reducible refine Below.alloc ?_ ?_ _) | (with_reducible refine Below.setCell ?_ ?_ _) | (with_reducible refine Below.drew ?_) | (with_reducible refine below_drewN ?_ _) | (refine Below.trans ?_ (Below.mono (by assumption) ?_)) | (with_reducible exact Nat.le_refl _) | (with_reducible assumption) | (exact Below.size (by assumption)) | omega | go_size | (simp at *; omega)))⟩
theorem fnExactStateText_walk (w : World) (aSH aSM : Int) (_ : BD aSH) (_ : BD aSM) :
    Calls Try.prog 8 #[.agg #[.int .i64 aSH, .int .i64 aSM]] w fun e w' => e = .returned (.bool true) ∧ Below w.heap.size w w' := by
  have hS := hid (fun  (w1 : World)  => specStateText_any aSH aSM w1 )
  have hI := hid (fun  (w1 : World)  => StateText_any aSH aSM w1 )
  generalize rStateText aSH aSM = r at *
  go_enter Try.func8, Try.ntmps8
  go_wp2_with (go_at_call 16; refine (toState_any _ _ _).mono ?_; rintro e w1 ⟨rfl, hb1⟩; have s1 := hb1.size; have hX0 := hb1; have hB : Below w.heap.size w w1 := (by repeat' (first | exact Below.refl _ _ | (with_reducible assumption) | (with_reducible refine Below.alloc ?_ ?_ _) | (with_reducible refine Below.setCell ?_ ?_ _) | (with_reducible refine Below.drew ?_) | (with_reducible refine below_drewN ?_ _) | (refine Below.trans ?_ (Below.mono (by assumption) ?_)) | (with_reducible exact Nat.le_refl _) | (with_reducible assumption) | (exact Below.size (by assumption)) | omega | go_size | (simp at *; omega))); obtain ⟨hchX0, hfhX0, hzhX0, hlhX0⟩ := bcell hX0)
  go_wp2_with (go_at_call 28; refine (hS.out _).mono ?_; rintro e w2 ⟨rfl, hb2⟩; have s2 := hb2.size; replace hB := bchain hB hb2; replace hX0 := bchain hX0 hb2; obtain ⟨hchX0, hfhX0, hzhX0, hlhX0⟩ := bcell hX0)
  go_wp2_with (go_at_call 16; refine (toState_any _ _ _).mono ?_; rintro e w3 ⟨rfl, hb3⟩; have s3 := hb3.size; replace hB := bchain hB hb3; replace hX0 := bchain hX0 hb3; obtain ⟨hchX0, hfhX0, hzhX0, hlhX0⟩ := bcell hX0)
  go_wp2_with (go_at_call 29; refine (hI.out _).mono ?_; rintro e w4 ⟨rfl, hb4⟩; have s4 := hb4.size; replace hB := bchain hB hb4; replace hX0 := bchain hX0 hb4; obtain ⟨hchX0, hfhX0, hzhX0, hlhX0⟩ := bcell hX0)
  go_ret
  exact ⟨rfl, (by repeat' (first | exact Below.refl _ _ | (with_reducible assumption) | (with_reducible refine Below.alloc ?_ ?_ _) | (with_reducible refine Below.setCell ?_ ?_ _) | (with_reducible refine Below.drew ?_) | (with_reducible refine below_drewN ?_ _) | (refine Below.trans ?_ (Below.mono (by assumption) ?_)) | (with_reducible exact Nat.le_refl _) | (with_reducible assumption) | (exact Below.size (by assumption)) | omega | go_size | (simp at *; omega)))⟩
end Go.Proofs.Ytegapfkmgfcolaa
