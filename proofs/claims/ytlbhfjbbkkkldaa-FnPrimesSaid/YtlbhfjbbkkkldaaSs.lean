/- Contracts of StatesOf, and the walk of its law. -/
import Derived.Test.YtlbhfjbbkkkldaaSq
import Derived.Test.YtlbhfjbbkkkldaaGs
namespace Go.Proofs.Ytlbhfjbbkkkldaa
open Go.RowKit
set_option linter.unusedVariables false

/-- The masks of a pattern before the beats of its period. -/
def mskP (p : List Int) (H : Nat) : List Int := (List.range p.length).map fun (i : Nat) => ((stM p (i : Int) H : Nat) : Int)
theorem mskP_len (p : List Int) (H : Nat) : (mskP p H).length = p.length := by simp [mskP]
theorem mskP_at {p : List Int} {H i : Nat} (h : i < p.length) : (mskP p H)[i]? = some ((stM p (i : Int) H : Nat) : Int) := by
  rw [mskP, List.getElem?_map, List.getElem?_range h]; rfl
theorem mskP_step {p : List Int} {H k : Nat} (h : k < p.length) : (mskP p H).take (k + 1) = (mskP p H).take k ++ [((stM p (k : Int) H : Nat) : Int)] := by
  rw [List.take_add_one, mskP_at h]; rfl
def rStatesOf (p : List Int) (h : Int) : List Int × Int := if stC p 0 h = 0 then (mskP p h.toNat, 0) else ([], stC p 0 h)
theorem StatesOf_len (p : List Int) (h : Int) : (rStatesOf p h).1.length ≤ 12 := by
  unfold rStatesOf
  split
  · rename_i k
    have := (thOk_iff (okP_th (stC_ok k).1)).2.2
    show (mskP p h.toNat).length ≤ 12
    rw [mskP_len]; exact this
  · simp

set_option maxHeartbeats 400000 in
theorem statesOf_any (A : Option Addr) (n c : Nat) (p : List Int) (H : Nat) (w : World) (hH : H ≤ 15) (hp : okP p = true) (hr : Rd w w.heap.size 1 A n (ints p)) :
    Calls Try.prog 162 #[.slice A n c, .int .i64 H] w fun e w' => ∃ v, e = .returned v ∧ w'.ownsRow w.heap.size 119 2 v n (sts (H : Int) (mskP p H)) ∧ Below w.heap.size w w' := by
  have hlen := hr.len
  have hth := thOk_iff (okP_th hp)
  have hn1 : 1 ≤ n := by omega
  have hn2 : n ≤ 12 := by omega
  have hO := hid (fun (w1 : World) (k : Nat) (hk : k < n) (r : Rd w1 w1.heap.size 1 A n (ints p)) => stateOf_any A n c p (k : Int) H w1 hH (by omega) (by omega) hp r)
  have hml := mskP_len p H
  rw [hlen] at hml
  have hms := hid (fun (k : Nat) (hk : k < n) => mskP_step (p := p) (H := H) (k := k) (by omega))
  have hrr := hid hr
  have HML := hid hml
  clear hr hlen hth hp hml
  go_enter Try.func162, Try.ntmps162
  go_wp2_with (go_at_call 152; refine (period_any _ _ _ _ (by omega)).mono ?_; rintro e w' ⟨rfl, rfl⟩)
  go_loopw [5, 10] (fun v i wr => ∃ k : Nat, k ≤ n ∧ i = .int .i64 k ∧ wr.ownsRow w.heap.size 119 2 v ((mskP p H).take k).length (sts (H : Int) ((mskP p H).take k)) ∧ Below w.heap.size w wr) (fun _ i _ => n - (intOf i).toNat)
  case atStart => exact ⟨0, Nat.zero_le _, rfl, World.ownsRow_lit _ _ 0 (by first | exact Nat.le_refl _ | omega) (by simp [maxLen]) rfl, (by repeat' (first | exact Below.refl _ _ | (with_reducible assumption) | (with_reducible refine Below.alloc ?_ ?_ _) | (with_reducible refine Below.setCell ?_ ?_ _) | (with_reducible refine Below.drew ?_) | (with_reducible refine below_drewN ?_ _) | (refine Below.trans ?_ (Below.mono (by assumption) ?_)) | (with_reducible exact Nat.le_refl _) | (with_reducible assumption) | (exact Below.size (by assumption)) | omega | go_size | (simp at *; omega)))⟩
  case round =>
    obtain ⟨k, hk, rfl, ho, hb0⟩ := hrel
    have hB := hb0.size
    have hol : ((mskP p H).take k).length ≤ 12 := by rw [List.length_take, HML.out]; omega
    by_cases hlt : k < n
    · have HM := hid (hms.out k hlt)
      have HO := hid (hO.out wr k hlt ((hrr.out.below hb0 (Nat.le_refl _)).more hB))
      generalize stM p (k : Int) H = m at *
      generalize (mskP p H).take k = out at *
      go_wp2_with (first | (go_at_call 178; refine HO.out.mono ?_; rintro e w1 ⟨rfl, hb1⟩; have ho1 := own_below ho hb1; have hB1 := Nat.le_trans hB hb1.size) | (at_builtin; refine push_st ho1 ((m : Nat) : Int) _ rfl _ _ rfl rfl rfl (by omega) hB1 ?_; intro v2 w2 ho2 hb2 hg2))
      go_roundw
      case rel => exact ⟨k + 1, by omega, by go_num, by rw [HM.out]; exact ho2, (by repeat' (first | exact Below.refl _ _ | (with_reducible assumption) | (with_reducible refine Below.alloc ?_ ?_ _) | (with_reducible refine Below.setCell ?_ ?_ _) | (with_reducible refine Below.drew ?_) | (with_reducible refine below_drewN ?_ _) | (refine Below.trans ?_ (Below.mono (by assumption) ?_)) | (with_reducible exact Nat.le_refl _) | (with_reducible assumption) | (exact Below.size (by assumption)) | omega | go_size | (simp at *; omega)))⟩
      case measure => simp [intOf]; omega
    · have hkn : k = n := by omega
      subst hkn
      rw [List.take_of_length_le (by rw [HML.out]; exact Nat.le_refl _), HML.out] at ho
      go_wp2
      go_ret
      exact ⟨_, rfl, ho, hb0⟩

set_option maxHeartbeats 400000 in
theorem l08States_any (A : Option Addr) (n c : Nat) (p : List Int) (H : Nat) (w : World) (hH : H ≤ 15) (hp : okP p = true) (hr : Rd w w.heap.size 1 A n (ints p)) :
    Calls Try.prog 179 #[.slice A n c, .int .i64 H] w fun e w' => ∃ v, e = .returned v ∧ w'.ownsRow w.heap.size 119 2 v n (sts (H : Int) (mskP p H)) ∧ Below w.heap.size w w' := by
  have hlen := hr.len
  have hth := thOk_iff (okP_th hp)
  have hn1 : 1 ≤ n := by omega
  have hn2 : n ≤ 12 := by omega
  have hO := hid (fun (w1 : World) (k : Nat) (hk : k < n) (r : Rd w1 w1.heap.size 1 A n (ints p)) => l08Of_any A n c p (k : Int) H w1 hH (by omega) (by omega) hp r)
  have hml := mskP_len p H
  rw [hlen] at hml
  have hms := hid (fun (k : Nat) (hk : k < n) => mskP_step (p := p) (H := H) (k := k) (by omega))
  have hrr := hid hr
  have HML := hid hml
  clear hr hlen hth hp hml
  go_enter Try.func179, Try.ntmps179
  go_wp2
  go_loopw [5, 6] (fun v i wr => ∃ k : Nat, k ≤ n ∧ i = .int .i64 k ∧ wr.ownsRow w.heap.size 119 2 v ((mskP p H).take k).length (sts (H : Int) ((mskP p H).take k)) ∧ Below w.heap.size w wr) (fun _ i _ => n - (intOf i).toNat)
  case atStart => exact ⟨0, Nat.zero_le _, rfl, World.ownsRow_lit _ _ 0 (by first | exact Nat.le_refl _ | omega) (by simp [maxLen]) rfl, (by repeat' (first | exact Below.refl _ _ | (with_reducible assumption) | (with_reducible refine Below.alloc ?_ ?_ _) | (with_reducible refine Below.setCell ?_ ?_ _) | (with_reducible refine Below.drew ?_) | (with_reducible refine below_drewN ?_ _) | (refine Below.trans ?_ (Below.mono (by assumption) ?_)) | (with_reducible exact Nat.le_refl _) | (with_reducible assumption) | (exact Below.size (by assumption)) | omega | go_size | (simp at *; omega)))⟩
  case round =>
    obtain ⟨k, hk, rfl, ho, hb0⟩ := hrel
    have hB := hb0.size
    have hol : ((mskP p H).take k).length ≤ 12 := by rw [List.length_take, HML.out]; omega
    by_cases hlt : k < n
    · have HM := hid (hms.out k hlt)
      have HO := hid (hO.out wr k hlt ((hrr.out.below hb0 (Nat.le_refl _)).more hB))
      generalize stM p (k : Int) H = m at *
      generalize (mskP p H).take k = out at *
      go_wp2_with (first | (go_at_call 177; refine HO.out.mono ?_; rintro e w1 ⟨rfl, hb1⟩; have ho1 := own_below ho hb1; have hB1 := Nat.le_trans hB hb1.size) | (at_builtin; refine push_st ho1 ((m : Nat) : Int) _ rfl _ _ rfl rfl rfl (by omega) hB1 ?_; intro v2 w2 ho2 hb2 hg2))
      go_roundw
      case rel => exact ⟨k + 1, by omega, by go_num, by rw [HM.out]; exact ho2, (by repeat' (first | exact Below.refl _ _ | (with_reducible assumption) | (with_reducible refine Below.alloc ?_ ?_ _) | (with_reducible refine Below.setCell ?_ ?_ _) | (with_reducible refine Below.drew ?_) | (with_reducible refine below_drewN ?_ _) | (refine Below.trans ?_ (Below.mono (by assumption) ?_)) | (with_reducible exact Nat.le_refl _) | (with_reducible assumption) | (exact Below.size (by assumption)) | omega | go_size | (simp at *; omega)))⟩
      case measure => simp [intOf]; omega
    · have hkn : k = n := by omega
      subst hkn
      rw [List.take_of_length_le (by rw [HML.out]; exact Nat.le_refl _), HML.out] at ho
      go_wp2
      go_ret
      exact ⟨_, rfl, ho, hb0⟩





end Go.Proofs.Ytlbhfjbbkkkldaa
