/- Contracts of StateAt, and the walks of the laws of the graphs. -/
import Derived.Test.YtnngkaocblkgkaaH
namespace Go.Proofs.Ytnngkaocblkgkaa
open Go.RowKit
set_option linter.unusedVariables false

def rStateAt (p h i : Int) : (Int × Int) × Int := if stRange p h && betweenB i 0 ((msks p h).length - 1) then ((h, (msks p h).getD i.toNat 0), 0) else ((0, 0), 2)
def stRes' (r : (Int × Int) × Int) : Value := .tuple #[.agg #[.int .i64 r.1.1, .int .i64 r.1.2], .int .i64 r.2]
theorem StateAt_any (p h i : Int) (w : World) :
    Calls Try.prog 16 #[.int .i64 p, .int .i64 h, .int .i64 i] w fun e w' => e = .returned (.tuple #[.agg #[.int .i64 (rStateAt p h i).1.1, .int .i64 (rStateAt p h i).1.2], .int .i64 (rStateAt p h i).2]) ∧ Below w.heap.size w w' := by
  by_cases k : stRange p h = true
  · obtain ⟨h1, h2⟩ := stRange_h k
    have hq := graphCode_any p h
    rw [show gCode p h = 0 by simp [gCode, k]] at hq
    have hq := hid hq
    have hl := msks_len (p := p) h1 h2
    have hm := hid (allStates_any p h)
    by_cases c : betweenB i 0 ((msks p h).length - 1) = true
    · have hs : rStateAt p h i = ((h, (msks p h).getD i.toNat 0), 0) := by simp [rStateAt, k, c]
      rw [hs]
      clear hs
      generalize msks p h = R at *
      obtain ⟨b1, b2⟩ := (betweenB_iff _ _ _).1 c
      obtain ⟨j, rfl⟩ := Int.eq_ofNat_of_zero_le b1
      simp only [Int.toNat_natCast]
      have hj : j < R.length := by omega
      obtain ⟨x, hx⟩ : ∃ x, R[j]? = some x := ⟨_, List.getElem?_eq_getElem hj⟩
      have hgd : R.getD j 0 = x := by rw [List.getD_eq_getElem?_getD, hx]; rfl
      rw [hgd]
      have HX := hid hx
      clear hx hgd
      go_enter Try.func16, Try.ntmps16
      go_wp2_with (first | (go_at_call 55; refine (hq.out _).mono ?_; rintro e w' ⟨rfl, rfl⟩) | (go_at_call 57; refine (between_any _ _ _ _).mono ?_; rintro e w' ⟨rfl, rfl⟩) | (go_at_call 56; refine (hm.out _ h1 h2).mono ?_; rintro e w1 ⟨v1, rfl, ho1, hb1⟩; obtain ⟨A1, c1, rfl⟩ := own_form ho1; obtain ⟨hc1, hf1, hz1, hl1⟩ := bcell hb1; obtain ⟨b, off, x', rfl, _, hx2, hcc1, hcc2⟩ := (Rd.of_own ho1).st_at hj; obtain rfl : x = x' := by have := HX.out; rw [hx2] at this; exact (Option.some.inj this).symm))
      refine bodyPost_ret (v := .tuple #[.agg #[.int .i64 h, .int .i64 x], .int .i64 0]) ?_ rfl ⟨rfl, ?_⟩
      · simp (maxDischargeDepth := 8) [results, Try.results16, go_sem, *]
      · exact (by repeat' (first | exact Below.refl _ _ | (with_reducible assumption) | (with_reducible refine Below.alloc ?_ ?_ _) | (with_reducible refine Below.setCell ?_ ?_ _) | (with_reducible refine Below.drew ?_) | (with_reducible refine below_drewN ?_ _) | (refine Below.trans ?_ (Below.mono (by assumption) ?_)) | (with_reducible exact Nat.le_refl _) | (with_reducible assumption) | (exact Below.size (by assumption)) | omega | go_size | (simp at *; omega)))
    · have c : betweenB i 0 ((msks p h).length - 1) = false := by simpa using c
      have hs : rStateAt p h i = ((0, 0), 2) := by simp [rStateAt, c]
      rw [hs]
      clear hs
      generalize msks p h = R at *
      go_enter Try.func16, Try.ntmps16
      go_wp2_with (first | (go_at_call 55; refine (hq.out _).mono ?_; rintro e w' ⟨rfl, rfl⟩) | (go_at_call 57; refine (between_any _ _ _ _).mono ?_; rintro e w' ⟨rfl, rfl⟩) | (go_at_call 56; refine (hm.out _ h1 h2).mono ?_; rintro e w1 ⟨v1, rfl, ho1, hb1⟩; obtain ⟨A1, c1, rfl⟩ := own_form ho1; obtain ⟨hc1, hf1, hz1, hl1⟩ := bcell hb1))
      refine bodyPost_ret (v := .tuple #[.agg #[.int .i64 0, .int .i64 0], .int .i64 2]) ?_ rfl ⟨rfl, ?_⟩
      · simp (maxDischargeDepth := 8) [results, Try.results16, go_sem, *]
      · exact (by repeat' (first | exact Below.refl _ _ | (with_reducible assumption) | (with_reducible refine Below.alloc ?_ ?_ _) | (with_reducible refine Below.setCell ?_ ?_ _) | (with_reducible refine Below.drew ?_) | (with_reducible refine below_drewN ?_ _) | (refine Below.trans ?_ (Below.mono (by assumption) ?_)) | (with_reducible exact Nat.le_refl _) | (with_reducible assumption) | (exact Below.size (by assumption)) | omega | go_size | (simp at *; omega)))
  · have k : stRange p h = false := by simpa using k
    have hq := graphCode_any p h
    rw [show gCode p h = 2 by simp [gCode, k]] at hq
    have hq := hid hq
    have hs : rStateAt p h i = ((0, 0), 2) := by simp [rStateAt, k]
    rw [hs]
    clear hs
    go_enter Try.func16, Try.ntmps16
    go_wp2_with (first | (go_at_call 55; refine (hq.out _).mono ?_; rintro e w' ⟨rfl, rfl⟩))
    refine bodyPost_ret (v := .tuple #[.agg #[.int .i64 0, .int .i64 0], .int .i64 2]) ?_ rfl ⟨rfl, ?_⟩
    · simp (maxDischargeDepth := 8) [results, Try.results16, go_sem, *]
    · exact (by repeat' (first | exact Below.refl _ _ | (with_reducible assumption) | (with_reducible refine Below.alloc ?_ ?_ _) | (with_reducible refine Below.setCell ?_ ?_ _) | (with_reducible refine Below.drew ?_) | (with_reducible refine below_drewN ?_ _) | (refine Below.trans ?_ (Below.mono (by assumption) ?_)) | (with_reducible exact Nat.le_refl _) | (with_reducible assumption) | (exact Below.size (by assumption)) | omega | go_size | (simp at *; omega)))
theorem specStateAt_any (p h i : Int) (w : World) :
    Calls Try.prog 15 #[.int .i64 p, .int .i64 h, .int .i64 i] w fun e w' => e = .returned (.tuple #[.agg #[.int .i64 (rStateAt p h i).1.1, .int .i64 (rStateAt p h i).1.2], .int .i64 (rStateAt p h i).2]) ∧ Below w.heap.size w w' := by
  by_cases k : stRange p h = true
  · obtain ⟨h1, h2⟩ := stRange_h k
    have hq := l09Code_any p h
    rw [show gCode p h = 0 by simp [gCode, k]] at hq
    have hq := hid hq
    have hl := msks_len (p := p) h1 h2
    have hm := hid (l09Masks_any p h)
    by_cases c : betweenB i 0 ((msks p h).length - 1) = true
    · have hs : rStateAt p h i = ((h, (msks p h).getD i.toNat 0), 0) := by simp [rStateAt, k, c]
      rw [hs]
      clear hs
      generalize msks p h = R at *
      obtain ⟨b1, b2⟩ := (betweenB_iff _ _ _).1 c
      obtain ⟨j, rfl⟩ := Int.eq_ofNat_of_zero_le b1
      simp only [Int.toNat_natCast]
      have hj : j < R.length := by omega
      obtain ⟨x, hx⟩ : ∃ x, R[j]? = some x := ⟨_, List.getElem?_eq_getElem hj⟩
      have hgd : R.getD j 0 = x := by rw [List.getD_eq_getElem?_getD, hx]; rfl
      rw [hgd]
      have HX := hid hx
      clear hx hgd
      go_enter Try.func15, Try.ntmps15
      go_wp2_with (first | (go_at_call 52; refine (hq.out _).mono ?_; rintro e w' ⟨rfl, rfl⟩) | (go_at_call 54; refine (l00In_any _ _ _ _).mono ?_; rintro e w' ⟨rfl, rfl⟩) | (go_at_call 53; refine (hm.out _ h1 h2).mono ?_; rintro e w1 ⟨v1, rfl, ho1, hb1⟩; obtain ⟨A1, c1, rfl⟩ := own_form ho1; obtain ⟨hc1, hf1, hz1, hl1⟩ := bcell hb1; obtain ⟨b, off, x', rfl, _, hx2, _, hcc1⟩ := (Rd.of_own ho1).at_ hj; obtain rfl : x = x' := by have := HX.out; rw [hx2] at this; exact (Option.some.inj this).symm))
      refine bodyPost_ret (v := .tuple #[.agg #[.int .i64 h, .int .i64 x], .int .i64 0]) ?_ rfl ⟨rfl, ?_⟩
      · simp (maxDischargeDepth := 8) [results, Try.results15, go_sem, *]
      · exact (by repeat' (first | exact Below.refl _ _ | (with_reducible assumption) | (with_reducible refine Below.alloc ?_ ?_ _) | (with_reducible refine Below.setCell ?_ ?_ _) | (with_reducible refine Below.drew ?_) | (with_reducible refine below_drewN ?_ _) | (refine Below.trans ?_ (Below.mono (by assumption) ?_)) | (with_reducible exact Nat.le_refl _) | (with_reducible assumption) | (exact Below.size (by assumption)) | omega | go_size | (simp at *; omega)))
    · have c : betweenB i 0 ((msks p h).length - 1) = false := by simpa using c
      have hs : rStateAt p h i = ((0, 0), 2) := by simp [rStateAt, c]
      rw [hs]
      clear hs
      generalize msks p h = R at *
      go_enter Try.func15, Try.ntmps15
      go_wp2_with (first | (go_at_call 52; refine (hq.out _).mono ?_; rintro e w' ⟨rfl, rfl⟩) | (go_at_call 54; refine (l00In_any _ _ _ _).mono ?_; rintro e w' ⟨rfl, rfl⟩) | (go_at_call 53; refine (hm.out _ h1 h2).mono ?_; rintro e w1 ⟨v1, rfl, ho1, hb1⟩; obtain ⟨A1, c1, rfl⟩ := own_form ho1; obtain ⟨hc1, hf1, hz1, hl1⟩ := bcell hb1))
      refine bodyPost_ret (v := .tuple #[.agg #[.int .i64 0, .int .i64 0], .int .i64 2]) ?_ rfl ⟨rfl, ?_⟩
      · simp (maxDischargeDepth := 8) [results, Try.results15, go_sem, *]
      · exact (by repeat' (first | exact Below.refl _ _ | (with_reducible assumption) | (with_reducible refine Below.alloc ?_ ?_ _) | (with_reducible refine Below.setCell ?_ ?_ _) | (with_reducible refine Below.drew ?_) | (with_reducible refine below_drewN ?_ _) | (refine Below.trans ?_ (Below.mono (by assumption) ?_)) | (with_reducible exact Nat.le_refl _) | (with_reducible assumption) | (exact Below.size (by assumption)) | omega | go_size | (simp at *; omega)))
  · have k : stRange p h = false := by simpa using k
    have hq := l09Code_any p h
    rw [show gCode p h = 2 by simp [gCode, k]] at hq
    have hq := hid hq
    have hs : rStateAt p h i = ((0, 0), 2) := by simp [rStateAt, k]
    rw [hs]
    clear hs
    go_enter Try.func15, Try.ntmps15
    go_wp2_with (first | (go_at_call 52; refine (hq.out _).mono ?_; rintro e w' ⟨rfl, rfl⟩))
    refine bodyPost_ret (v := .tuple #[.agg #[.int .i64 0, .int .i64 0], .int .i64 2]) ?_ rfl ⟨rfl, ?_⟩
    · simp (maxDischargeDepth := 8) [results, Try.results15, go_sem, *]
    · exact (by repeat' (first | exact Below.refl _ _ | (with_reducible assumption) | (with_reducible refine Below.alloc ?_ ?_ _) | (with_reducible refine Below.setCell ?_ ?_ _) | (with_reducible refine Below.drew ?_) | (with_reducible refine below_drewN ?_ _) | (refine Below.trans ?_ (Below.mono (by assumption) ?_)) | (with_reducible exact Nat.le_refl _) | (with_reducible assumption) | (exact Below.size (by assumption)) | omega | go_size | (simp at *; omega)))
theorem fnExactAllStates_walk (w : World) (aProps : Int) (_ : BD aProps) (aHeight : Int) (_ : BD aHeight) :
    Calls Try.prog 9 #[.int .i64 aProps, .int .i64 aHeight] w fun e w' => e = .returned (.bool true) ∧ Below w.heap.size w w' := by
  have hS := hid (fun  (w1 : World)  => specAllStates_any aProps aHeight w1 )
  have hI := hid (fun  (w1 : World)  => AllStates_any aProps aHeight w1 )
  have hL := AllStates_len aProps aHeight
  generalize rAllStates aProps aHeight = r at *
  obtain ⟨r0, r1⟩ := r
  try dsimp only at hL
  have hB := Below.refl w.heap.size w
  go_enter Try.func9, Try.ntmps9
  go_wp2_with (go_at_call 31; refine (hS.out _).mono ?_; rintro e w1 ⟨v1, rfl, ho1, hb1⟩; obtain ⟨A1, c1, rfl⟩ := own_form ho1; have l1 := ho1.lt; have s1 := hb1.size; replace hB := bchain hB hb1)
  go_wp2_with (go_at_call 32; refine (hI.out _).mono ?_; rintro e w2 ⟨v2, rfl, ho2, hb2⟩; obtain ⟨A2, c2, rfl⟩ := own_form ho2; have l2 := ho2.lt; have s2 := hb2.size; replace hB := bchain hB hb2; replace ho1 := own_below ho1 hb2)
  go_wp2_with (go_at_call 33; refine (eqStateS_same _ _ _ _ _ _ _ _ (by omega) (Rd.of_own ho2) (Rd.of_own ho1)).mono ?_; rintro e w3 ⟨rfl, hb3⟩; have s3 := hb3.size; replace hB := bchain hB hb3; replace ho1 := own_below ho1 hb3; replace ho2 := own_below ho2 hb3)
  go_wp2_with (go_at_call 34; refine (markStateS_any _ _ _ 1 _ _ (by omega) (by omega) ho2).mono ?_; rintro e w4 ⟨rfl, hm4, hg4⟩; have s4 := hg4.size; replace hB := below_grown hB hg4 (fun g h => by have := (l2 g h).1; omega); replace ho1 := own_apart ho1 w1.heap.size (fun g h => by have := (l1 g h).2; omega) (fun g h => by have := (l2 g h).1; omega) hg4; replace ho2 := hm4)
  go_wp2_with (go_at_call 35; refine (heldStateS_any _ _ _ 1 _ (by omega) (by omega) (Rd.of_own ho2)).mono ?_; rintro e w5 ⟨rfl, hb5⟩; have s5 := hb5.size; replace hB := bchain hB hb5; replace ho1 := own_below ho1 hb5; replace ho2 := own_below ho2 hb5)
  go_wp2_with (go_at_call 32; refine (hI.out _).mono ?_; rintro e w6 ⟨v6, rfl, ho6, hb6⟩; obtain ⟨A6, c6, rfl⟩ := own_form ho6; have l6 := ho6.lt; have s6 := hb6.size; replace hB := bchain hB hb6; replace ho1 := own_below ho1 hb6; replace ho2 := own_below ho2 hb6)
  go_wp2_with (go_at_call 33; refine (eqStateS_same _ _ _ _ _ _ _ _ (by omega) (Rd.of_own ho6) (Rd.of_own ho1)).mono ?_; rintro e w7 ⟨rfl, hb7⟩; have s7 := hb7.size; replace hB := bchain hB hb7; replace ho1 := own_below ho1 hb7; replace ho2 := own_below ho2 hb7; replace ho6 := own_below ho6 hb7)
  go_wp2_with (go_at_call 35; refine (heldStateS_any _ _ _ 1 _ (by omega) (by omega) (Rd.of_own ho2)).mono ?_; rintro e w8 ⟨rfl, hb8⟩; have s8 := hb8.size; replace hB := bchain hB hb8; replace ho1 := own_below ho1 hb8; replace ho2 := own_below ho2 hb8; replace ho6 := own_below ho6 hb8)
  go_ret
  exact ⟨rfl, (by repeat' (first | exact Below.refl _ _ | (with_reducible assumption) | (with_reducible refine Below.alloc ?_ ?_ _) | (with_reducible refine Below.setCell ?_ ?_ _) | (with_reducible refine Below.drew ?_) | (with_reducible refine below_drewN ?_ _) | (refine Below.trans ?_ (Below.mono (by assumption) ?_)) | (with_reducible exact Nat.le_refl _) | (with_reducible assumption) | (exact Below.size (by assumption)) | omega | go_size | (simp at *; omega)))⟩
theorem fnExactStateAt_walk (w : World) (aProps : Int) (_ : BD aProps) (aHeight : Int) (_ : BD aHeight) (aIndex : Int) (_ : BD aIndex) :
    Calls Try.prog 3 #[.int .i64 aProps, .int .i64 aHeight, .int .i64 aIndex] w fun e w' => e = .returned (.bool true) ∧ Below w.heap.size w w' := by
  have hS := hid (fun  (w1 : World)  => specStateAt_any aProps aHeight aIndex w1 )
  have hI := hid (fun  (w1 : World)  => StateAt_any aProps aHeight aIndex w1 )
  generalize rStateAt aProps aHeight aIndex = r at *
  obtain ⟨⟨r0h, r0m⟩, r1⟩ := r
  have hB := Below.refl w.heap.size w
  go_enter Try.func3, Try.ntmps3
  go_wp2_with (go_at_call 15; refine (hS.out _).mono ?_; rintro e w1 ⟨rfl, hb1⟩; have s1 := hb1.size; replace hB := bchain hB hb1)
  go_wp2_with (go_at_call 16; refine (hI.out _).mono ?_; rintro e w2 ⟨rfl, hb2⟩; have s2 := sizeA hb2; replace hB := bchainA hB hb2; have hX2 := hb2; obtain ⟨hchX2, hfhX2, hzhX2, hlhX2⟩ := bcell hX2)
  go_wp2_with (go_at_call 17; refine (eqState_same _ _ _).mono ?_; rintro e w3 ⟨rfl, hb3⟩; have s3 := sizeA hb3; replace hB := bchainA hB hb3; replace hX2 := bchainA hX2 hb3; have hX3 := hb3; obtain ⟨hchX2, hfhX2, hzhX2, hlhX2⟩ := bcell hX2; obtain ⟨hchX3, hfhX3, hzhX3, hlhX3⟩ := bcell hX3)
  go_ret
  exact ⟨rfl, (by repeat' (first | exact Below.refl _ _ | (with_reducible assumption) | (with_reducible refine Below.alloc ?_ ?_ _) | (with_reducible refine Below.setCell ?_ ?_ _) | (with_reducible refine Below.drew ?_) | (with_reducible refine below_drewN ?_ _) | (refine Below.trans ?_ (Below.mono (by assumption) ?_)) | (with_reducible exact Nat.le_refl _) | (with_reducible assumption) | (exact Below.size (by assumption)) | omega | go_size | (simp at *; omega)))⟩
end Go.Proofs.Ytnngkaocblkgkaa
