/- Contracts of StatesOf, and the walk of its law. -/
import Derived.Test.YteaabniemlnjbaaSq
import Derived.Test.YteaabniemlnjbaaGs
namespace Go.Proofs.Yteaabniemlnjbaa
open Go.RowKit
set_option linter.unusedVariables false

/-- The masks of a pattern before the beats of its period. -/
def mskP (p : List Int) (H : Nat) : List Int := (List.range p.length).map fun (i : Nat) => ((stM p (i : Int) H : Nat) : Int)
theorem mskP_len (p : List Int) (H : Nat) : (mskP p H).length = p.length := by simp [mskP]
theorem mskP_at {p : List Int} {H i : Nat} (h : i < p.length) : (mskP p H)[i]? = some ((stM p (i : Int) H : Nat) : Int) := by
  rw [mskP, List.getElem?_map, List.getElem?_range h]; rfl
theorem mskP_step {p : List Int} {H k : Nat} (h : k < p.length) : (mskP p H).take (k + 1) = (mskP p H).take k ++ [((stM p (k : Int) H : Nat) : Int)] := by
  rw [List.take_add_one, mskP_at h]; rfl
def rStatesOf (p : List Int) (h : Int) : List Int × Int := if stC p 0 h = 0 then (mskP p h.toNat, 0) else ([], stC p 0 h)
theorem StatesOf_len (p : List Int) (h : Int) : (rStatesOf p h).1.length ≤ 12 := by
  unfold rStatesOf
  split
  · rename_i k
    have := (thOk_iff (okP_th (stC_ok k).1)).2.2
    show (mskP p h.toNat).length ≤ 12
    rw [mskP_len]; exact this
  · simp

set_option maxHeartbeats 400000 in
theorem statesOf_any (A : Option Addr) (n c : Nat) (p : List Int) (H : Nat) (w : World) (hH : H ≤ 15) (hp : okP p = true) (hr : Rd w w.heap.size 1 A n (ints p)) :
    Calls Try.prog 93 #[.slice A n c, .int .i64 H] w fun e w' => ∃ v, e = .returned v ∧ w'.ownsRow w.heap.size 64 2 v n (sts (H : Int) (mskP p H)) ∧ Below w.heap.size w w' := by
  have hlen := hr.len
  have hth := thOk_iff (okP_th hp)
  have hn1 : 1 ≤ n := by omega
  have hn2 : n ≤ 12 := by omega
  have hO := hid (fun (w1 : World) (k : Nat) (hk : k < n) (r : Rd w1 w1.heap.size 1 A n (ints p)) => stateOf_any A n c p (k : Int) H w1 hH (by omega) (by omega) hp r)
  have hml := mskP_len p H
  rw [hlen] at hml
  have hms := hid (fun (k : Nat) (hk : k < n) => mskP_step (p := p) (H := H) (k := k) (by omega))
  have hrr := hid hr
  have HML := hid hml
  clear hr hlen hth hp hml
  go_enter Try.func93, Try.ntmps93
  go_wp2_with (go_at_call 107; refine (period_any _ _ _ _ (by omega)).mono ?_; rintro e w' ⟨rfl, rfl⟩)
  go_loopw [5, 10] (fun v i wr => ∃ k : Nat, k ≤ n ∧ i = .int .i64 k ∧ wr.ownsRow w.heap.size 64 2 v ((mskP p H).take k).length (sts (H : Int) ((mskP p H).take k)) ∧ Below w.heap.size w wr) (fun _ i _ => n - (intOf i).toNat)
  case atStart => exact ⟨0, Nat.zero_le _, rfl, World.ownsRow_lit _ _ 0 (by first | exact Nat.le_refl _ | omega) (by simp [maxLen]) rfl, (by repeat' (first | exact Below.refl _ _ | (with_reducible assumption) | (with_reducible refine Below.alloc ?_ ?_ _) | (with_reducible refine Below.setCell ?_ ?_ _) | (with_reducible refine Below.drew ?_) | (with_reducible refine below_drewN ?_ _) | (refine Below.trans ?_ (Below.mono (by assumption) ?_)) | (with_reducible exact Nat.le_refl _) | (with_reducible assumption) | (exact Below.size (by assumption)) | omega | go_size | (simp at *; omega)))⟩
  case round =>
    obtain ⟨k, hk, rfl, ho, hb0⟩ := hrel
    have hB := hb0.size
    have hol : ((mskP p H).take k).length ≤ 12 := by rw [List.length_take, HML.out]; omega
    by_cases hlt : k < n
    · have HM := hid (hms.out k hlt)
      have HO := hid (hO.out wr k hlt ((hrr.out.below hb0 (Nat.le_refl _)).more hB))
      generalize stM p (k : Int) H = m at *
      generalize (mskP p H).take k = out at *
      go_wp2_with (first | (go_at_call 132; refine HO.out.mono ?_; rintro e w1 ⟨rfl, hb1⟩; have ho1 := own_below ho hb1; have hB1 := Nat.le_trans hB hb1.size) | (at_builtin; refine push_st ho1 ((m : Nat) : Int) _ rfl _ _ rfl rfl rfl (by omega) hB1 ?_; intro v2 w2 ho2 hb2 hg2))
      go_roundw
      case rel => exact ⟨k + 1, by omega, by go_num, by rw [HM.out]; exact ho2, (by repeat' (first | exact Below.refl _ _ | (with_reducible assumption) | (with_reducible refine Below.alloc ?_ ?_ _) | (with_reducible refine Below.setCell ?_ ?_ _) | (with_reducible refine Below.drew ?_) | (with_reducible refine below_drewN ?_ _) | (refine Below.trans ?_ (Below.mono (by assumption) ?_)) | (with_reducible exact Nat.le_refl _) | (with_reducible assumption) | (exact Below.size (by assumption)) | omega | go_size | (simp at *; omega)))⟩
      case measure => simp [intOf]; omega
    · have hkn : k = n := by omega
      subst hkn
      rw [List.take_of_length_le (by rw [HML.out]; exact Nat.le_refl _), HML.out] at ho
      go_wp2
      go_ret
      exact ⟨_, rfl, ho, hb0⟩

set_option maxHeartbeats 400000 in
theorem l08States_any (A : Option Addr) (n c : Nat) (p : List Int) (H : Nat) (w : World) (hH : H ≤ 15) (hp : okP p = true) (hr : Rd w w.heap.size 1 A n (ints p)) :
    Calls Try.prog 88 #[.slice A n c, .int .i64 H] w fun e w' => ∃ v, e = .returned v ∧ w'.ownsRow w.heap.size 64 2 v n (sts (H : Int) (mskP p H)) ∧ Below w.heap.size w w' := by
  have hlen := hr.len
  have hth := thOk_iff (okP_th hp)
  have hn1 : 1 ≤ n := by omega
  have hn2 : n ≤ 12 := by omega
  have hO := hid (fun (w1 : World) (k : Nat) (hk : k < n) (r : Rd w1 w1.heap.size 1 A n (ints p)) => l08Of_any A n c p (k : Int) H w1 hH (by omega) (by omega) hp r)
  have hml := mskP_len p H
  rw [hlen] at hml
  have hms := hid (fun (k : Nat) (hk : k < n) => mskP_step (p := p) (H := H) (k := k) (by omega))
  have hrr := hid hr
  have HML := hid hml
  clear hr hlen hth hp hml
  go_enter Try.func88, Try.ntmps88
  go_wp2
  go_loopw [5, 6] (fun v i wr => ∃ k : Nat, k ≤ n ∧ i = .int .i64 k ∧ wr.ownsRow w.heap.size 64 2 v ((mskP p H).take k).length (sts (H : Int) ((mskP p H).take k)) ∧ Below w.heap.size w wr) (fun _ i _ => n - (intOf i).toNat)
  case atStart => exact ⟨0, Nat.zero_le _, rfl, World.ownsRow_lit _ _ 0 (by first | exact Nat.le_refl _ | omega) (by simp [maxLen]) rfl, (by repeat' (first | exact Below.refl _ _ | (with_reducible assumption) | (with_reducible refine Below.alloc ?_ ?_ _) | (with_reducible refine Below.setCell ?_ ?_ _) | (with_reducible refine Below.drew ?_) | (with_reducible refine below_drewN ?_ _) | (refine Below.trans ?_ (Below.mono (by assumption) ?_)) | (with_reducible exact Nat.le_refl _) | (with_reducible assumption) | (exact Below.size (by assumption)) | omega | go_size | (simp at *; omega)))⟩
  case round =>
    obtain ⟨k, hk, rfl, ho, hb0⟩ := hrel
    have hB := hb0.size
    have hol : ((mskP p H).take k).length ≤ 12 := by rw [List.length_take, HML.out]; omega
    by_cases hlt : k < n
    · have HM := hid (hms.out k hlt)
      have HO := hid (hO.out wr k hlt ((hrr.out.below hb0 (Nat.le_refl _)).more hB))
      generalize stM p (k : Int) H = m at *
      generalize (mskP p H).take k = out at *
      go_wp2_with (first | (go_at_call 128; refine HO.out.mono ?_; rintro e w1 ⟨rfl, hb1⟩; have ho1 := own_below ho hb1; have hB1 := Nat.le_trans hB hb1.size) | (at_builtin; refine push_st ho1 ((m : Nat) : Int) _ rfl _ _ rfl rfl rfl (by omega) hB1 ?_; intro v2 w2 ho2 hb2 hg2))
      go_roundw
      case rel => exact ⟨k + 1, by omega, by go_num, by rw [HM.out]; exact ho2, (by repeat' (first | exact Below.refl _ _ | (with_reducible assumption) | (with_reducible refine Below.alloc ?_ ?_ _) | (with_reducible refine Below.setCell ?_ ?_ _) | (with_reducible refine Below.drew ?_) | (with_reducible refine below_drewN ?_ _) | (refine Below.trans ?_ (Below.mono (by assumption) ?_)) | (with_reducible exact Nat.le_refl _) | (with_reducible assumption) | (exact Below.size (by assumption)) | omega | go_size | (simp at *; omega)))⟩
      case measure => simp [intOf]; omega
    · have hkn : k = n := by omega
      subst hkn
      rw [List.take_of_length_le (by rw [HML.out]; exact Nat.le_refl _), HML.out] at ho
      go_wp2
      go_ret
      exact ⟨_, rfl, ho, hb0⟩

theorem StatesOf_any (A : Option Addr) (n c : Nat) (p : List Int) (h : Int) (w : World) (hn : n ≤ 1099511627776) (hr : Rd w w.heap.size 1 A n (ints p)) :
    Calls Try.prog 28 #[.slice A n c, .int .i64 h] w fun e w' => ∃ v, e = .returned (.tuple #[v, .int .i64 (rStatesOf p h).2]) ∧ w'.ownsRow w.heap.size 64 2 v (rStatesOf p h).1.length (sts h (rStatesOf p h).1) ∧ Below w.heap.size w w' := by
  have hC := stateCode_any A n c p 0 h w hn hr
  have HR := hid hr
  by_cases k : stC p 0 h = 0
  · obtain ⟨kp, b1, b2, h1, h2, _⟩ := stC_ok k
    obtain ⟨N, rfl⟩ := Int.eq_ofNat_of_zero_le (show 0 ≤ h by omega)
    have hs : Hid (rStatesOf p (N : Int) = (mskP p N, 0)) := by show _ = _; rw [rStatesOf, if_pos k, Int.toNat_natCast]
    rw [k] at hC
    have hC := hid hC
    have hml := hid ((mskP_len p N).trans hr.len)
    have HO := hid (fun (w1 : World) (r : Rd w1 w1.heap.size 1 A n (ints p)) => statesOf_any A n c p N w1 (by omega) kp r)
    clear k kp hr
    go_enter Try.func28, Try.ntmps28
    go_wp2_with (first | (go_at_call 92; refine (hC.out).mono ?_; rintro e w1 ⟨rfl, hb1⟩; first | (have hk1 := bchain (by assumption) hb1; obtain ⟨hc1, hf1, hz1, hl1⟩ := bcell hk1) | (obtain ⟨hc1, hf1, hz1, hl1⟩ := bcell hb1)) | (go_at_call 93; refine (HO.out _ ((HR.out.below hb1 (Nat.le_refl _)).more hb1.size)).mono ?_; rintro e w2 ⟨v2, rfl, ho2, hb2⟩))
    go_ret2
    rw [hs.out]
    refine ⟨_, rfl, ?_, (by repeat' (first | exact Below.refl _ _ | (with_reducible assumption) | (with_reducible refine Below.alloc ?_ ?_ _) | (with_reducible refine Below.setCell ?_ ?_ _) | (with_reducible refine Below.drew ?_) | (with_reducible refine below_drewN ?_ _) | (refine Below.trans ?_ (Below.mono (by assumption) ?_)) | (with_reducible exact Nat.le_refl _) | (with_reducible assumption) | (exact Below.size (by assumption)) | omega | go_size | (simp at *; omega)))⟩
    show w2.ownsRow _ _ _ _ (mskP p N).length _
    rw [hml.out]
    exact own_more ho2 hb1.size
  · have hs : Hid (rStatesOf p h = ([], stC p 0 h)) := by show _ = _; rw [rStatesOf, if_neg k]
    have hq : (stC p 0 h != 0) = true := by simpa using k
    have hC := hid hC
    generalize stC p 0 h = C at *
    clear k hr
    go_enter Try.func28, Try.ntmps28
    go_wp2_with (first | (go_at_call 92; refine (hC.out).mono ?_; rintro e w1 ⟨rfl, hb1⟩; first | (have hk1 := bchain (by assumption) hb1; obtain ⟨hc1, hf1, hz1, hl1⟩ := bcell hk1) | (obtain ⟨hc1, hf1, hz1, hl1⟩ := bcell hb1)))
    go_ret2
    rw [hs.out]
    exact ⟨_, rfl, World.ownsRow_nil _ _ _ _, (by repeat' (first | exact Below.refl _ _ | (with_reducible assumption) | (with_reducible refine Below.alloc ?_ ?_ _) | (with_reducible refine Below.setCell ?_ ?_ _) | (with_reducible refine Below.drew ?_) | (with_reducible refine below_drewN ?_ _) | (refine Below.trans ?_ (Below.mono (by assumption) ?_)) | (with_reducible exact Nat.le_refl _) | (with_reducible assumption) | (exact Below.size (by assumption)) | omega | go_size | (simp at *; omega)))⟩

theorem specStatesOf_any (A : Option Addr) (n c : Nat) (p : List Int) (h : Int) (w : World) (hn : n ≤ 1099511627776) (hr : Rd w w.heap.size 1 A n (ints p)) :
    Calls Try.prog 27 #[.slice A n c, .int .i64 h] w fun e w' => ∃ v, e = .returned (.tuple #[v, .int .i64 (rStatesOf p h).2]) ∧ w'.ownsRow w.heap.size 64 2 v (rStatesOf p h).1.length (sts h (rStatesOf p h).1) ∧ Below w.heap.size w w' := by
  have hC := l08Code_any A n c p 0 h w hn hr
  have HR := hid hr
  by_cases k : stC p 0 h = 0
  · obtain ⟨kp, b1, b2, h1, h2, _⟩ := stC_ok k
    obtain ⟨N, rfl⟩ := Int.eq_ofNat_of_zero_le (show 0 ≤ h by omega)
    have hs : Hid (rStatesOf p (N : Int) = (mskP p N, 0)) := by show _ = _; rw [rStatesOf, if_pos k, Int.toNat_natCast]
    rw [k] at hC
    have hC := hid hC
    have hml := hid ((mskP_len p N).trans hr.len)
    have HO := hid (fun (w1 : World) (r : Rd w1 w1.heap.size 1 A n (ints p)) => l08States_any A n c p N w1 (by omega) kp r)
    clear k kp hr
    go_enter Try.func27, Try.ntmps27
    go_wp2_with (first | (go_at_call 91; refine (hC.out).mono ?_; rintro e w1 ⟨rfl, hb1⟩; first | (have hk1 := bchain (by assumption) hb1; obtain ⟨hc1, hf1, hz1, hl1⟩ := bcell hk1) | (obtain ⟨hc1, hf1, hz1, hl1⟩ := bcell hb1)) | (go_at_call 88; refine (HO.out _ ((HR.out.below hb1 (Nat.le_refl _)).more hb1.size)).mono ?_; rintro e w2 ⟨v2, rfl, ho2, hb2⟩))
    go_ret2
    rw [hs.out]
    refine ⟨_, rfl, ?_, (by repeat' (first | exact Below.refl _ _ | (with_reducible assumption) | (with_reducible refine Below.alloc ?_ ?_ _) | (with_reducible refine Below.setCell ?_ ?_ _) | (with_reducible refine Below.drew ?_) | (with_reducible refine below_drewN ?_ _) | (refine Below.trans ?_ (Below.mono (by assumption) ?_)) | (with_reducible exact Nat.le_refl _) | (with_reducible assumption) | (exact Below.size (by assumption)) | omega | go_size | (simp at *; omega)))⟩
    show w2.ownsRow _ _ _ _ (mskP p N).length _
    rw [hml.out]
    exact own_more ho2 hb1.size
  · have hs : Hid (rStatesOf p h = ([], stC p 0 h)) := by show _ = _; rw [rStatesOf, if_neg k]
    have hq : (stC p 0 h != 0) = true := by simpa using k
    have hC := hid hC
    generalize stC p 0 h = C at *
    clear k hr
    go_enter Try.func27, Try.ntmps27
    go_wp2_with (first | (go_at_call 91; refine (hC.out).mono ?_; rintro e w1 ⟨rfl, hb1⟩; first | (have hk1 := bchain (by assumption) hb1; obtain ⟨hc1, hf1, hz1, hl1⟩ := bcell hk1) | (obtain ⟨hc1, hf1, hz1, hl1⟩ := bcell hb1)))
    go_ret2
    rw [hs.out]
    exact ⟨_, rfl, World.ownsRow_nil _ _ _ _, (by repeat' (first | exact Below.refl _ _ | (with_reducible assumption) | (with_reducible refine Below.alloc ?_ ?_ _) | (with_reducible refine Below.setCell ?_ ?_ _) | (with_reducible refine Below.drew ?_) | (with_reducible refine below_drewN ?_ _) | (refine Below.trans ?_ (Below.mono (by assumption) ?_)) | (with_reducible exact Nat.le_refl _) | (with_reducible assumption) | (exact Below.size (by assumption)) | omega | go_size | (simp at *; omega)))⟩

theorem fnExactStatesOf_walk (w : World) (aPA : Option Addr) (aPN aPC : Nat) (aP : List Int) (aPK : Came .i64 w aPA aPN aPC aP) (aHeight : Int) (_ : BD aHeight) :
    Calls Try.prog 7 #[.slice aPA aPN aPC, .int .i64 aHeight] w fun e w' => e = .returned (.bool true) ∧ Below w.heap.size w w' := by
  by_cases hlong0 : 1048576 < aPN
  · have hmaP := aPK.2.1
    go_enter Try.func7, Try.ntmps7
    go_wp2
    go_ret
    exact ⟨rfl, (by repeat' (first | exact Below.refl _ _ | (with_reducible assumption) | (with_reducible refine Below.alloc ?_ ?_ _) | (with_reducible refine Below.setCell ?_ ?_ _) | (with_reducible refine Below.drew ?_) | (with_reducible refine below_drewN ?_ _) | (refine Below.trans ?_ (Below.mono (by assumption) ?_)) | (with_reducible exact Nat.le_refl _) | (with_reducible assumption) | (exact Below.size (by assumption)) | omega | go_size | (simp at *; omega)))⟩
  have KaP := Rd.of_came aPK
  have KLaP := KaP.len
  have B0aP := hid aPK
  have hS := hid (fun (AaP : Option Addr) (caP : Nat) (w1 : World) (kaP : Rd w1 w1.heap.size 1 AaP aPN (ints aP)) => specStatesOf_any AaP aPN caP aP aHeight w1 (by omega) kaP)
  have hI := hid (fun (AaP : Option Addr) (caP : Nat) (w1 : World) (kaP : Rd w1 w1.heap.size 1 AaP aPN (ints aP)) => StatesOf_any AaP aPN caP aP aHeight w1 (by omega) kaP)
  have hL := StatesOf_len aP aHeight
  generalize rStatesOf aP aHeight = r at *
  obtain ⟨r0, r1⟩ := r
  try dsimp only at hL
  have hB := Below.refl w.heap.size w
  go_enter Try.func7, Try.ntmps7
  go_wp2_with (go_at_call 16; refine (toInt64S_any _ _ _ _ _ (by omega) ((KaP.below hB (Nat.le_refl _)).more hB.size)).mono ?_; rintro e w1 ⟨v1, rfl, ho1, hb1⟩; obtain ⟨A1, c1, rfl⟩ := own_form ho1; have l1 := ho1.lt; have s1 := hb1.size; replace hB := bchain hB hb1)
  go_wp2_with (go_at_call 27; refine (hS.out _ _ _ (Rd.of_own ho1)).mono ?_; rintro e w2 ⟨v2, rfl, ho2, hb2⟩; obtain ⟨A2, c2, rfl⟩ := own_form ho2; have l2 := ho2.lt; have s2 := hb2.size; replace hB := bchain hB hb2)
  go_wp2_with (go_at_call 16; refine (toInt64S_any _ _ _ _ _ (by omega) ((KaP.below hB (Nat.le_refl _)).more hB.size)).mono ?_; rintro e w3 ⟨v3, rfl, ho3, hb3⟩; obtain ⟨A3, c3, rfl⟩ := own_form ho3; have l3 := ho3.lt; have s3 := hb3.size; replace hB := bchain hB hb3; replace ho2 := own_below ho2 hb3)
  go_wp2_with (go_at_call 28; refine (hI.out _ _ _ (Rd.of_own ho3)).mono ?_; rintro e w4 ⟨v4, rfl, ho4, hb4⟩; obtain ⟨A4, c4, rfl⟩ := own_form ho4; have l4 := ho4.lt; have s4 := hb4.size; replace hB := bchain hB hb4; replace ho2 := own_below ho2 hb4; replace ho3 := own_below ho3 hb4)
  go_wp2_with (go_at_call 29; refine (eqStateS_same _ _ _ _ _ _ _ _ (by omega) (Rd.of_own ho4) (Rd.of_own ho2)).mono ?_; rintro e w5 ⟨rfl, hb5⟩; have s5 := hb5.size; replace hB := bchain hB hb5; replace ho2 := own_below ho2 hb5; replace ho3 := own_below ho3 hb5; replace ho4 := own_below ho4 hb5)
  go_wp2_with (go_at_call 16; refine (toInt64S_any _ _ _ _ _ (by omega) ((KaP.below hB (Nat.le_refl _)).more hB.size)).mono ?_; rintro e w6 ⟨v6, rfl, ho6, hb6⟩; obtain ⟨A6, c6, rfl⟩ := own_form ho6; have l6 := ho6.lt; have s6 := hb6.size; replace hB := bchain hB hb6; replace ho2 := own_below ho2 hb6; replace ho3 := own_below ho3 hb6; replace ho4 := own_below ho4 hb6)
  go_wp2_with (go_at_call 18; refine (eqInt64S_same _ _ _ _ _ _ _ (by omega) (Rd.of_own ho3) (Rd.of_own ho6)).mono ?_; rintro e w7 ⟨rfl, hb7⟩; have s7 := hb7.size; replace hB := bchain hB hb7; replace ho2 := own_below ho2 hb7; replace ho3 := own_below ho3 hb7; replace ho4 := own_below ho4 hb7)
  go_wp2_with (go_at_call 19; refine (markInt64S_any _ _ _ 1 _ _ (by omega) (by omega) ho3).mono ?_; rintro e w8 ⟨rfl, hm8, hg8⟩; have s8 := hg8.size; replace hB := below_grown hB hg8 (fun g h => by have := (l3 g h).1; omega); replace ho2 := own_apart ho2 w2.heap.size (fun g h => by have := (l2 g h).2; omega) (fun g h => by have := (l3 g h).1; omega) hg8; replace ho4 := own_after ho4 w3.heap.size (fun g h => by have := (l4 g h).1; omega) (fun g h => by have := (l3 g h).2; omega) hg8)
  go_wp2_with (go_at_call 29; refine (eqStateS_same _ _ _ _ _ _ _ _ (by omega) (Rd.of_own ho4) (Rd.of_own ho2)).mono ?_; rintro e w9 ⟨rfl, hb9⟩; have s9 := hb9.size; replace hB := bchain hB hb9; replace ho2 := own_below ho2 hb9; replace ho4 := own_below ho4 hb9)
  go_wp2_with (go_at_call 30; refine (markStateS_any _ _ _ 1 _ _ (by omega) (by omega) ho4).mono ?_; rintro e w10 ⟨rfl, hm10, hg10⟩; have s10 := hg10.size; replace hB := below_grown hB hg10 (fun g h => by have := (l4 g h).1; omega); replace ho2 := own_apart ho2 w3.heap.size (fun g h => by have := (l2 g h).2; omega) (fun g h => by have := (l4 g h).1; omega) hg10; replace ho4 := hm10)
  go_wp2_with (go_at_call 31; refine (heldStateS_any _ _ _ 1 _ (by omega) (by omega) (Rd.of_own ho4)).mono ?_; rintro e w11 ⟨rfl, hb11⟩; have s11 := hb11.size; replace hB := bchain hB hb11; replace ho2 := own_below ho2 hb11; replace ho4 := own_below ho4 hb11)
  go_wp2_with (go_at_call 16; refine (toInt64S_any _ _ _ _ _ (by omega) ((KaP.below hB (Nat.le_refl _)).more hB.size)).mono ?_; rintro e w12 ⟨v12, rfl, ho12, hb12⟩; obtain ⟨A12, c12, rfl⟩ := own_form ho12; have l12 := ho12.lt; have s12 := hb12.size; replace hB := bchain hB hb12; replace ho2 := own_below ho2 hb12; replace ho4 := own_below ho4 hb12)
  go_wp2_with (go_at_call 28; refine (hI.out _ _ _ (Rd.of_own ho12)).mono ?_; rintro e w13 ⟨v13, rfl, ho13, hb13⟩; obtain ⟨A13, c13, rfl⟩ := own_form ho13; have l13 := ho13.lt; have s13 := hb13.size; replace hB := bchain hB hb13; replace ho2 := own_below ho2 hb13; replace ho4 := own_below ho4 hb13)
  go_wp2_with (go_at_call 29; refine (eqStateS_same _ _ _ _ _ _ _ _ (by omega) (Rd.of_own ho13) (Rd.of_own ho2)).mono ?_; rintro e w14 ⟨rfl, hb14⟩; have s14 := hb14.size; replace hB := bchain hB hb14; replace ho4 := own_below ho4 hb14)
  go_wp2_with (go_at_call 31; refine (heldStateS_any _ _ _ 1 _ (by omega) (by omega) (Rd.of_own ho4)).mono ?_; rintro e w15 ⟨rfl, hb15⟩; have s15 := hb15.size; replace hB := bchain hB hb15)
  go_ret
  exact ⟨rfl, (by repeat' (first | exact Below.refl _ _ | (with_reducible assumption) | (with_reducible refine Below.alloc ?_ ?_ _) | (with_reducible refine Below.setCell ?_ ?_ _) | (with_reducible refine Below.drew ?_) | (with_reducible refine below_drewN ?_ _) | (refine Below.trans ?_ (Below.mono (by assumption) ?_)) | (with_reducible exact Nat.le_refl _) | (with_reducible assumption) | (exact Below.size (by assumption)) | omega | go_size | (simp at *; omega)))⟩


end Go.Proofs.Yteaabniemlnjbaa
