/- Contracts of ReadHands, and the walk of its law. -/
import Derived.Test.YtopakpgmmfkcnaaW
namespace Go.Proofs.Ytopakpgmmfkcnaa
open Go.RowKit
set_option linter.unusedVariables false

/-- The numbers of letters. -/
def rdH (l : List UInt8) : List Int := l.map fun b => (b.toNat : Int) - 97
theorem bytes_drop (s : ByteArray) (k : Nat) (h : k < s.size) : s.data.toList.drop k = s[k] :: s.data.toList.drop (k + 1) := by
  rw [List.drop_eq_getElem_cons (by simpa using h)]; rfl
theorem rdH_cons (b : UInt8) (l : List UInt8) : rdH (b :: l) = ((b.toNat : Int) - 97) :: rdH l := rfl
/-- What ReadHands gives. -/
def rReadHands (s : ByteArray) : List Int × Bool := if hdOk (rdH s.data.toList) then (rdH s.data.toList, true) else ([], false)
theorem ReadHands_len (s : ByteArray) : (rReadHands s).1.length ≤ 12 := by
  unfold rReadHands
  split
  · rename_i h
    simp only [hdOk, Bool.and_eq_true, betweenB_iff] at h
    simp only
    omega
  · simp
theorem rdH_len (s : ByteArray) : (rdH s.data.toList).length = s.size := by simp [rdH]
theorem ReadHands_any (s : ByteArray) (hs : s.size ≤ 1099511627776) (w : World) :
    Calls Try.prog 8 #[.string s] w fun e w' => ∃ v, e = .returned (.tuple #[v, .bool (rReadHands s).2]) ∧ w'.ownsRow w.heap.size 2 1 v (rReadHands s).1.length (ints (rReadHands s).1) ∧ Below w.heap.size w w' := by
  by_cases hbig : 12 < s.size
  · have hR : rReadHands s = ([], false) := by
      have : hdOk (rdH s.data.toList) = false := by
        cases hh : hdOk (rdH s.data.toList) with
        | false => rfl
        | true =>
          simp only [hdOk, Bool.and_eq_true, betweenB_iff, rdH_len] at hh
          omega
      simp [rReadHands, this]
    rw [hR]
    clear hR
    go_enter Try.func8, Try.ntmps8
    go_wp2
    go_ret2
    exact ⟨_, rfl, World.ownsRow_nil _ _ _ _, (by repeat' (first | exact Below.refl _ _ | (with_reducible assumption) | (with_reducible refine Below.alloc ?_ ?_ _) | (with_reducible refine Below.setCell ?_ ?_ _) | (with_reducible refine Below.drew ?_) | (with_reducible refine below_drewN ?_ _) | (refine Below.trans ?_ (Below.mono (by assumption) ?_)) | (with_reducible exact Nat.le_refl _) | (with_reducible assumption) | (exact Below.size (by assumption)) | omega | go_size | (simp at *; omega)))⟩
  · have hst : Hid (([] : List Int) ++ rdH (s.data.toList.drop 0) = rdH s.data.toList) := rfl
    have hll := rdH_len s
    have hRd : Hid (rReadHands s = if hdOk (rdH s.data.toList) then (rdH s.data.toList, true) else ([], false)) := rfl
    generalize rdH s.data.toList = R at *
    go_enter Try.func8, Try.ntmps8
    go_wp2
    go_loopw [4, 12] (fun v i wr => ∃ (k : Nat) (out : List Int), k ≤ s.size ∧ i = .int .i64 k ∧ out.length = k ∧ Hid (out ++ rdH (s.data.toList.drop k) = R) ∧ wr.ownsRow w.heap.size 2 1 v out.length (ints out) ∧ Below w.heap.size w wr) (fun _ i _ => s.size - (intOf i).toNat)
    case atStart => exact ⟨0, [], Nat.zero_le _, rfl, rfl, hst, World.ownsRow_lit _ _ 0 (Nat.le_refl _) (by simp [maxLen]) rfl, (by repeat' (first | exact Below.refl _ _ | (with_reducible assumption) | (with_reducible refine Below.alloc ?_ ?_ _) | (with_reducible refine Below.setCell ?_ ?_ _) | (with_reducible refine Below.drew ?_) | (with_reducible refine below_drewN ?_ _) | (refine Below.trans ?_ (Below.mono (by assumption) ?_)) | (with_reducible exact Nat.le_refl _) | (with_reducible assumption) | (exact Below.size (by assumption)) | omega | go_size | (simp at *; omega)))⟩
    case round =>
      obtain ⟨k, out, hk, rfl, hok, he, ho, hb0⟩ := hrel
      have hB := hb0.size
      by_cases hlt : k < s.size
      · have HZ : Hid ((out ++ [((s[k]'hlt).toNat : Int) - 97]) ++ rdH (s.data.toList.drop (k + 1)) = R) := by
          show _ = _
          rw [← he.out, bytes_drop s k hlt, rdH_cons]; simp
        have hby : ((s[k]'hlt).toNat : Int) ≤ 255 := by have := (s[k]'hlt).toNat_lt; omega
        have hby0 : 0 ≤ ((s[k]'hlt).toNat : Int) := by omega
        clear he hst
        go_wp2_with (at_builtin; refine push_int ho (((s[k]'hlt).toNat : Int) - 97) _ Try.underlying24 inf_int rfl rfl _ _ rfl rfl rfl (by omega) (by omega) ?_; intro v1 w1 ho1 hb1 hg1)
        go_roundw
        case rel => exact ⟨k + 1, _, by omega, by go_num, by simp [hok], HZ, ho1, (by repeat' (first | exact Below.refl _ _ | (with_reducible assumption) | (with_reducible refine Below.alloc ?_ ?_ _) | (with_reducible refine Below.setCell ?_ ?_ _) | (with_reducible refine Below.drew ?_) | (with_reducible refine below_drewN ?_ _) | (refine Below.trans ?_ (Below.mono (by assumption) ?_)) | (with_reducible exact Nat.le_refl _) | (with_reducible assumption) | (exact Below.size (by assumption)) | omega | go_size | (simp at *; omega)))⟩
        case measure => simp [intOf]; omega
      · have hkn : k = s.size := by omega
        have he := he.out
        rw [List.drop_eq_nil_of_le (by simp; omega)] at he
        have he : out = R := by simpa [rdH] using he
        subst he
        obtain ⟨A1, c1, rfl⟩ := own_form ho
        have hV := ValidHands_any A1 out.length c1 out wr (by omega) (Rd.of_own ho)
        have hB2 := hid hb0
        by_cases hok2 : hdOk out = true
        · rw [hok2] at hV
          have hV := hid hV
          have HR : Hid (rReadHands s = (out, true)) := by show _ = _; rw [hRd.out, if_pos hok2]
          have HO := hid ho
          clear hRd hst ho hok2 hok hll
          go_wp2_with (go_at_call 13; refine hV.out.mono ?_; rintro e w1 ⟨rfl, hb1⟩)
          go_ret2
          rw [HR.out]
          exact ⟨_, rfl, own_below HO.out hb1, (by repeat' (first | exact Below.refl _ _ | (with_reducible assumption) | (with_reducible refine Below.alloc ?_ ?_ _) | (with_reducible refine Below.setCell ?_ ?_ _) | (with_reducible refine Below.drew ?_) | (with_reducible refine below_drewN ?_ _) | (refine Below.trans ?_ (Below.mono (by assumption) ?_)) | (with_reducible exact Nat.le_refl _) | (with_reducible assumption) | (exact Below.size (by assumption)) | omega | go_size | (simp at *; omega)))⟩
        · have hok2 : hdOk out = false := by simpa using hok2
          rw [hok2] at hV
          have hV := hid hV
          have HR : Hid (rReadHands s = ([], false)) := by show _ = _; rw [hRd.out, hok2]; rfl
          clear hRd hst ho hok2 hok hll
          go_wp2_with (go_at_call 13; refine hV.out.mono ?_; rintro e w1 ⟨rfl, hb1⟩)
          go_ret2
          rw [HR.out]
          exact ⟨_, rfl, World.ownsRow_nil _ _ _ _, (by repeat' (first | exact Below.refl _ _ | (with_reducible assumption) | (with_reducible refine Below.alloc ?_ ?_ _) | (with_reducible refine Below.setCell ?_ ?_ _) | (with_reducible refine Below.drew ?_) | (with_reducible refine below_drewN ?_ _) | (refine Below.trans ?_ (Below.mono (by assumption) ?_)) | (with_reducible exact Nat.le_refl _) | (with_reducible assumption) | (exact Below.size (by assumption)) | omega | go_size | (simp at *; omega)))⟩
theorem specReadHands_any (s : ByteArray) (hs : s.size ≤ 1099511627776) (w : World) :
    Calls Try.prog 10 #[.string s] w fun e w' => ∃ v, e = .returned (.tuple #[v, .bool (rReadHands s).2]) ∧ w'.ownsRow w.heap.size 2 1 v (rReadHands s).1.length (ints (rReadHands s).1) ∧ Below w.heap.size w w' := by
  have hst : Hid (([] : List Int) ++ rdH (s.data.toList.drop 0) = rdH s.data.toList) := rfl
  have hll := rdH_len s
  have hRd : Hid (rReadHands s = if hdOk (rdH s.data.toList) then (rdH s.data.toList, true) else ([], false)) := rfl
  generalize rdH s.data.toList = R at *
  go_enter Try.func10, Try.ntmps10
  go_wp2
  go_loopw [4, 5] (fun v i wr => ∃ (k : Nat) (out : List Int), k ≤ s.size ∧ i = .int .i64 k ∧ out.length = k ∧ Hid (out ++ rdH (s.data.toList.drop k) = R) ∧ wr.ownsRow w.heap.size 2 1 v out.length (ints out) ∧ Below w.heap.size w wr) (fun _ i _ => s.size - (intOf i).toNat)
  case atStart => exact ⟨0, [], Nat.zero_le _, rfl, rfl, hst, World.ownsRow_lit _ _ 0 (Nat.le_refl _) (by simp [maxLen]) rfl, (by repeat' (first | exact Below.refl _ _ | (with_reducible assumption) | (with_reducible refine Below.alloc ?_ ?_ _) | (with_reducible refine Below.setCell ?_ ?_ _) | (with_reducible refine Below.drew ?_) | (with_reducible refine below_drewN ?_ _) | (refine Below.trans ?_ (Below.mono (by assumption) ?_)) | (with_reducible exact Nat.le_refl _) | (with_reducible assumption) | (exact Below.size (by assumption)) | omega | go_size | (simp at *; omega)))⟩
  case round =>
    obtain ⟨k, out, hk, rfl, hok, he, ho, hb0⟩ := hrel
    have hB := hb0.size
    by_cases hlt : k < s.size
    · have HZ : Hid ((out ++ [((s[k]'hlt).toNat : Int) - 97]) ++ rdH (s.data.toList.drop (k + 1)) = R) := by
        show _ = _
        rw [← he.out, bytes_drop s k hlt, rdH_cons]; simp
      have hby : ((s[k]'hlt).toNat : Int) ≤ 255 := by have := (s[k]'hlt).toNat_lt; omega
      have hby0 : 0 ≤ ((s[k]'hlt).toNat : Int) := by omega
      clear he hst
      go_wp2_with (at_builtin; refine push_int ho (((s[k]'hlt).toNat : Int) - 97) _ Try.underlying24 inf_int rfl rfl _ _ rfl rfl rfl (by omega) (by omega) ?_; intro v1 w1 ho1 hb1 hg1)
      go_roundw
      case rel => exact ⟨k + 1, _, by omega, by go_num, by simp [hok], HZ, ho1, (by repeat' (first | exact Below.refl _ _ | (with_reducible assumption) | (with_reducible refine Below.alloc ?_ ?_ _) | (with_reducible refine Below.setCell ?_ ?_ _) | (with_reducible refine Below.drew ?_) | (with_reducible refine below_drewN ?_ _) | (refine Below.trans ?_ (Below.mono (by assumption) ?_)) | (with_reducible exact Nat.le_refl _) | (with_reducible assumption) | (exact Below.size (by assumption)) | omega | go_size | (simp at *; omega)))⟩
      case measure => simp [intOf]; omega
    · have hkn : k = s.size := by omega
      have he := he.out
      rw [List.drop_eq_nil_of_le (by simp; omega)] at he
      have he : out = R := by simpa [rdH] using he
      subst he
      obtain ⟨A1, c1, rfl⟩ := own_form ho
      have hV := l14Ok_any A1 out.length c1 out wr (by omega) (Rd.of_own ho)
      by_cases hok2 : hdOk out = true
      · rw [hok2] at hV
        have hV := hid hV
        have HR : Hid (rReadHands s = (out, true)) := by show _ = _; rw [hRd.out, if_pos hok2]
        have HO := hid ho
        clear hRd hst ho hok2 hok hll
        go_wp2_with (go_at_call 29; refine (hV.out).mono ?_; rintro e w' ⟨rfl, rfl⟩)
        go_ret2
        rw [HR.out]
        exact ⟨_, rfl, HO.out, (by repeat' (first | exact Below.refl _ _ | (with_reducible assumption) | (with_reducible refine Below.alloc ?_ ?_ _) | (with_reducible refine Below.setCell ?_ ?_ _) | (with_reducible refine Below.drew ?_) | (with_reducible refine below_drewN ?_ _) | (refine Below.trans ?_ (Below.mono (by assumption) ?_)) | (with_reducible exact Nat.le_refl _) | (with_reducible assumption) | (exact Below.size (by assumption)) | omega | go_size | (simp at *; omega)))⟩
      · have hok2 : hdOk out = false := by simpa using hok2
        rw [hok2] at hV
        have hV := hid hV
        have HR : Hid (rReadHands s = ([], false)) := by show _ = _; rw [hRd.out, hok2]; rfl
        clear hRd hst ho hok2 hok hll
        go_wp2_with (go_at_call 29; refine (hV.out).mono ?_; rintro e w' ⟨rfl, rfl⟩)
        go_ret2
        rw [HR.out]
        exact ⟨_, rfl, World.ownsRow_nil _ _ _ _, (by repeat' (first | exact Below.refl _ _ | (with_reducible assumption) | (with_reducible refine Below.alloc ?_ ?_ _) | (with_reducible refine Below.setCell ?_ ?_ _) | (with_reducible refine Below.drew ?_) | (with_reducible refine below_drewN ?_ _) | (refine Below.trans ?_ (Below.mono (by assumption) ?_)) | (with_reducible exact Nat.le_refl _) | (with_reducible assumption) | (exact Below.size (by assumption)) | omega | go_size | (simp at *; omega)))⟩
end Go.Proofs.Ytopakpgmmfkcnaa
