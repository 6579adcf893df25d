/- Several texts in one: Pt, Yd, Cu, Tn. -/
import Derived.Test.YtgphkfnobmponaaGreatG01
import Derived.Test.YtgphkfnobmponaaGreatDw
import Derived.Test.YtgphkfnobmponaaGreatG02
import Derived.Test.YtgphkfnobmponaaGreatG08
import Derived.Test.YtgphkfnobmponaaGreatG06
import Derived.Test.YtgphkfnobmponaaGreatG04
import Derived.Test.YtgphkfnobmponaaGreatG05
/- Contracts of the texts of patterns: PatternText, hexOf, readThrows, ReadPattern. -/
namespace Go.Proofs.YtgphkfnobmponaaGreat
open Go.RowKit
set_option linter.unusedVariables false

/-- The byte of a throw. -/
def hexB (t : Int) : Int := if t ≤ 9 then 48 + t else 87 + t
def hexS : ByteArray := ⟨#[48, 49, 50, 51, 52, 53, 54, 55, 56, 57, 97, 98, 99, 100, 101, 102]⟩
theorem hexS_size : hexS.size = 16 := by decide
theorem hexS_at : ∀ t : Fin 16, ((hexS[t.val]'(by have := t.isLt; rw [hexS_size]; exact this)).toNat : Int) = hexB (t.val : Int) := by decide
theorem rDig_hexB {t : Int} (h0 : 0 ≤ t) (h1 : t ≤ 15) : rDig (hexB t) = t := by
  unfold hexB rDig
  split <;> split <;> (try split) <;> omega
theorem rDig_cases (c : Int) : rDig c = -1 ∨ (0 ≤ rDig c ∧ rDig c ≤ 15 ∧ hexB (rDig c) = c) := by
  unfold rDig
  split
  · right; unfold hexB; split <;> omega
  · split
    · right; unfold hexB; split <;> omega
    · left; rfl
theorem hexB_bd {t : Int} (h0 : 0 ≤ t) (h1 : t ≤ 15) : 0 ≤ hexB t ∧ hexB t ≤ 255 := by unfold hexB; split <;> omega
theorem hexOf_any (c : Int) (c0 : 0 ≤ c) (c1 : c ≤ 255) (w : World) : Calls Tryz.prog 35 #[.int .u8 c] w fun e w' => e = .returned (.int .i64 (rDig c)) ∧ w = w' := by
  go_enter Tryz.func35, Tryz.ntmps35
  go_wp2
  go_loop [4] (fun i => Hid (∃ k : Nat, k ≤ 16 ∧ i = .int .i64 k ∧ ∀ j : Nat, j < k → hexB j ≠ c)) (fun i => 16 - (intOf i).toNat)
  case atStart => exact hid ⟨0, by omega, rfl, fun j h => by omega⟩
  case round =>
    obtain ⟨k, hk, rfl, hall⟩ := hrel.out
    by_cases hlt : k < 16
    · have hS := hexS_at ⟨k, hlt⟩
      obtain ⟨y, hy⟩ : ∃ y, hexB (k : Int) = y := ⟨_, rfl⟩
      have hS : ((({ data := #[48, 49, 50, 51, 52, 53, 54, 55, 56, 57, 97, 98, 99, 100, 101, 102] } : ByteArray)[k]'(by rw [show ({ data := #[48, 49, 50, 51, 52, 53, 54, 55, 56, 57, 97, 98, 99, 100, 101, 102] } : ByteArray).size = 16 from rfl]; exact hlt)).toNat : Int) = y := by rw [← hy]; exact hS
      by_cases hyc : y = c
      · have hd : Hid (rDig c = (k : Int)) := by
          show _ = _
          rw [← hyc, ← hy]; exact rDig_hexB (by omega) (by omega)
        subst hyc
        have HY := hid hy
        clear hy hall hrel
        go_wp2
        go_ret
        exact ⟨ret_int hd.out.symm, rfl⟩
      · have hq : (y == c) = false := by simpa using hyc
        have HA : Hid (∀ j : Nat, j < k + 1 → hexB j ≠ c) := by
          intro j hj
          rcases Nat.lt_or_eq_of_le (Nat.le_of_lt_succ hj) with h | h
          · exact hall j h
          · subst h; rw [hy]; exact hyc
        clear hy hall hrel hyc
        go_wp2
        go_round
        case rel => exact hid ⟨k + 1, by omega, by go_num, HA.out⟩
        case measure => simp [intOf]; omega
    · have hd : Hid (rDig c = -1) := by
        show _ = _
        rcases rDig_cases c with h | ⟨h0, h1, h2⟩
        · exact h
        · exact absurd (by rw [Int.toNat_of_nonneg h0]; exact h2) (hall (rDig c).toNat (by omega))
      go_wp2
      go_ret
      exact ⟨ret_int hd.out.symm, rfl⟩
theorem inf_b8 : (Tryz.prog.info? 5).map (fun i => (i.zero, i.size, i.bytes)) = some (some (.int .u8 0), 1, 1) := by kernel_rfl
def patS (p : List Int) : ByteArray := strOfNums (p.map hexB)
theorem PatternText_ok (A : Option Addr) (n c : Nat) (p : List Int) (w : World) (hp : okP p = true) (hr : Rd w w.heap.size 1 A n (ints p)) :
    Calls Tryz.prog 26 #[.slice A n c] w fun e w' => e = .returned (.string (patS p)) ∧ Below w.heap.size w w' := by
  have hlen := hr.len
  obtain ⟨hbd, hn1, hn2⟩ := thOk_iff (okP_th hp)
  have hV := ValidPattern_any A n c p w (by omega) hr
  rw [hp] at hV
  have hV := hid hV
  have HR := hid hr
  have hbd := hid hbd
  have hn2 : n ≤ 12 := by omega
  have hlen' := hid hlen
  have hs : Hid (patS p = strOfNums (p.map hexB)) := rfl
  generalize patS p = R at *
  clear hp hr hlen
  go_enter Tryz.func26, Tryz.ntmps26
  go_wp2_with (go_at_call 58; refine (hV.out).mono ?_; rintro e w1 ⟨rfl, hb1⟩; first | (have hk1 := bchain (by assumption) hb1; obtain ⟨hc1, hf1, hz1, hl1⟩ := bcell hk1) | (obtain ⟨hc1, hf1, hz1, hl1⟩ := bcell hb1))
  go_loopw [3, 12] (fun v i wr => Hid (∃ k : Nat, k ≤ n ∧ i = .int .i64 k ∧ wr.ownsRow w.heap.size 5 1 v ((p.take k).map hexB).length (byts ((p.take k).map hexB)) ∧ Below w.heap.size w wr)) (fun _ i _ => n - (intOf i).toNat)
  case atStart => exact hid ⟨0, Nat.zero_le _, rfl, World.ownsRow_lit _ _ 0 (by first | exact hb1.size | omega) (by simp [maxLen]) rfl, (by repeat' (first | exact Below.refl _ _ | (with_reducible first | assumption | exact Nat.le_refl _ | refine Below.alloc ?_ ?_ _ | refine Below.setCell ?_ ?_ _ | refine Below.drew ?_ | refine below_drewN ?_ _) | refine Below.trans ?_ (Below.mono (by assumption) ?_) | exact Below.size (by assumption) | omega | go_size | (simp at *; omega)))⟩
  case round =>
    obtain ⟨k, hk, rfl, ho, hb0⟩ := hrel.out
    have hB := hb0.size
    have hol : ((p.take k).map hexB).length ≤ 12 := by rw [List.length_map, List.length_take]; omega
    by_cases hlt : k < n
    · obtain ⟨b, off, x, rfl, hb, hx, hd, hc⟩ := (HR.out.below hb0 (Nat.le_refl _)).at_ hlt
      obtain ⟨x0, x1⟩ := hbd.out x (List.mem_of_getElem? hx)
      obtain ⟨t, rfl⟩ := Int.eq_ofNat_of_zero_le x0
      have ht : t < 16 := by omega
      have hS := hexS_at ⟨t, ht⟩
      obtain ⟨y, hy⟩ : ∃ y, hexB (t : Int) = y := ⟨_, rfl⟩
      have hS : ((({ data := #[48, 49, 50, 51, 52, 53, 54, 55, 56, 57, 97, 98, 99, 100, 101, 102] } : ByteArray)[t]'(by rw [show ({ data := #[48, 49, 50, 51, 52, 53, 54, 55, 56, 57, 97, 98, 99, 100, 101, 102] } : ByteArray).size = 16 from rfl]; exact ht)).toNat : Int) = y := by rw [← hy]; exact hS
      have hyb := hexB_bd x0 x1
      rw [hy] at hyb
      obtain ⟨y0, y1⟩ := hyb
      have HT : Hid ((p.take (k + 1)).map hexB = (p.take k).map hexB ++ [y]) := by show _ = _; rw [List.take_add_one, hx, ← hy]; simp
      generalize (p.take k).map hexB = out at *
      have htn : (t : Int).toNat = t := by omega
      clear hx hd hb hy hrel
      go_wp2_with (at_builtin; refine push_u8 ho y _ Tryz.underlying22 inf_b8 rfl rfl _ _ rfl rfl rfl (by omega) hB ?_; intro v2 w2 ho2 hb2 hg2)
      go_roundw
      case rel => exact hid ⟨k + 1, by omega, by go_num, by rw [HT.out]; exact ho2, (by repeat' (first | exact Below.refl _ _ | (with_reducible first | assumption | exact Nat.le_refl _ | refine Below.alloc ?_ ?_ _ | refine Below.setCell ?_ ?_ _ | refine Below.drew ?_ | refine below_drewN ?_ _) | refine Below.trans ?_ (Below.mono (by assumption) ?_) | exact Below.size (by assumption) | omega | go_size | (simp at *; omega)))⟩
      case measure => simp [intOf]; omega
    · have hkn : k = n := by omega
      rw [List.take_of_length_le (by rw [hlen'.out]; omega)] at ho
      obtain ⟨A1, c1, rfl⟩ := own_form ho
      have hcv := string_own ho 22 Tryz.underlying22 Tryz.underlying5 9 Tryz.underlying9
      generalize p.map hexB = out at *
      clear hkn ho hrel
      go_wp2
      go_ret
      exact ⟨by rw [hs.out]; rfl, (by repeat' (first | exact Below.refl _ _ | (with_reducible first | assumption | exact Nat.le_refl _ | refine Below.alloc ?_ ?_ _ | refine Below.setCell ?_ ?_ _ | refine Below.drew ?_ | refine below_drewN ?_ _) | refine Below.trans ?_ (Below.mono (by assumption) ?_) | exact Below.size (by assumption) | omega | go_size | (simp at *; omega)))⟩
theorem readThrows_any (s : ByteArray) (hs : s.size ≤ 12) (w : World) :
    Calls Tryz.prog 39 #[.string s] w fun e w' => ∃ v, e = .returned (.tuple #[v, .bool (thOk (rdDig s.data.toList))]) ∧ w'.ownsRow w.heap.size 2 1 v s.size (ints (rdDig s.data.toList)) ∧ Below w.heap.size w w' := by
  have hst : Hid (([] : List Int) ++ rdDig (s.data.toList.drop 0) = rdDig s.data.toList) := rfl
  have hll := hid (rdDig_len s)
  generalize rdDig s.data.toList = R at *
  go_enter Tryz.func39, Tryz.ntmps39
  go_wp2
  go_loopw [4, 12] (fun v i wr => Hid (∃ (k : Nat) (out : List Int), k ≤ s.size ∧ i = .int .i64 k ∧ out.length ≤ s.size ∧ Hid (out ++ rdDig (s.data.toList.drop k) = R) ∧ wr.ownsRow w.heap.size 2 1 v out.length (ints out) ∧ Below w.heap.size w wr)) (fun _ i _ => s.size - (intOf i).toNat)
  case atStart => exact hid ⟨0, [], Nat.zero_le _, rfl, by simp, hst, World.ownsRow_lit _ _ 0 (Nat.le_refl _) (by simp [maxLen]) rfl, (by repeat' (first | exact Below.refl _ _ | (with_reducible first | assumption | exact Nat.le_refl _ | refine Below.alloc ?_ ?_ _ | refine Below.setCell ?_ ?_ _ | refine Below.drew ?_ | refine below_drewN ?_ _) | refine Below.trans ?_ (Below.mono (by assumption) ?_) | exact Below.size (by assumption) | omega | go_size | (simp at *; omega)))⟩
  case round =>
    obtain ⟨k, out, hk, rfl, hol, he, ho, hb0⟩ := hrel.out
    have hB := hb0.size
    have hRl : Hid (out.length + (s.size - k) = R.length) := by
      show _ = _
      rw [← he.out]; simp [rdDig]
    by_cases hlt : k < s.size
    · have HZ : Hid ((out ++ [rDig ((s[k]'hlt).toNat : Int)]) ++ rdDig (s.data.toList.drop (k + 1)) = R) := by
        show _ = _
        rw [← he.out, byte_drop s k hlt]; simp [rdDig]
      have hby : ((s[k]'hlt).toNat : Int) ≤ 255 := by have := (s[k]'hlt).toNat_lt; omega
      have hby0 : 0 ≤ ((s[k]'hlt).toNat : Int) := by omega
      have hD := hid (hexOf_any ((s[k]'hlt).toNat : Int) hby0 hby wr)
      have hol2 : out.length + 1 ≤ s.size := by have := hRl.out; have := hll.out; omega
      generalize rDig ((s[k]'hlt).toNat : Int) = d at *
      clear he hst hRl hrel
      go_wp2_with (first | (go_at_call 35; refine (hD.out).mono ?_; rintro e w' ⟨rfl, rfl⟩) | (at_builtin; refine push_int ho (d) _ Tryz.underlying24 inf_int rfl rfl _ _ rfl rfl rfl (by omega) (by omega) ?_; intro v1 w1 ho1 hb1 hg1))
      go_roundw
      case rel => exact hid ⟨k + 1, out ++ [d], by omega, by go_num, by rw [List.length_append]; exact hol2, HZ, ho1, (by repeat' (first | exact Below.refl _ _ | (with_reducible first | assumption | exact Nat.le_refl _ | refine Below.alloc ?_ ?_ _ | refine Below.setCell ?_ ?_ _ | refine Below.drew ?_ | refine below_drewN ?_ _) | refine Below.trans ?_ (Below.mono (by assumption) ?_) | exact Below.size (by assumption) | omega | go_size | (simp at *; omega)))⟩
      case measure => simp [intOf]; omega
    · have hkk : k = s.size := by omega
      have hR := he.out
      rw [List.drop_eq_nil_of_le (by simp; omega)] at hR
      simp only [rdDig, List.map_nil, List.append_nil] at hR
      subst hR
      obtain ⟨A4, c4, rfl⟩ := own_form ho
      have hT := areThrows_any A4 out.length c4 out wr (by omega) (Rd.of_own ho)
      obtain ⟨tb, htb⟩ : ∃ tb, thOk out = tb := ⟨_, rfl⟩
      rw [htb] at hT
      have hT := hid hT
      have HTB := hid htb
      clear htb hrel he hst hRl
      go_wp2_with (go_at_call 70; refine (hT.out).mono ?_; rintro e w' ⟨rfl, rfl⟩)
      go_ret2
      rw [HTB.out]
      exact ⟨_, rfl, by rw [← hll.out]; exact ho, (by repeat' (first | exact Below.refl _ _ | (with_reducible first | assumption | exact Nat.le_refl _ | refine Below.alloc ?_ ?_ _ | refine Below.setCell ?_ ?_ _ | refine Below.drew ?_ | refine below_drewN ?_ _) | refine Below.trans ?_ (Below.mono (by assumption) ?_) | exact Below.size (by assumption) | omega | go_size | (simp at *; omega)))⟩
def rReadPattern (s : ByteArray) : List Int × Bool := if okP (rdDig s.data.toList) then (rdDig s.data.toList, true) else ([], false)
theorem ReadPattern_any (s : ByteArray) (hs : s.size ≤ 1099511627776) (w : World) :
    Calls Tryz.prog 30 #[.string s] w fun e w' => ∃ v, e = .returned (.tuple #[v, .bool (rReadPattern s).2]) ∧ w'.ownsRow w.heap.size 2 1 v (rReadPattern s).1.length (ints (rReadPattern s).1) ∧ Below w.heap.size w w' := by
  have hll := rdDig_len s
  by_cases hbig : 12 < s.size
  · have hR : rReadPattern s = ([], false) := by
      have : okP (rdDig s.data.toList) = false := by
        cases h : okP (rdDig s.data.toList) with
        | false => rfl
        | true => have := (thOk_iff (okP_th h)).2.2; omega
      simp [rReadPattern, this]
    rw [hR]
    have hV := fun (w1 : World) => ValidPattern_any none 0 0 [] w1 (by omega) ⟨rfl, fun h => absurd h (by omega)⟩
    have h0 : okP [] = false := rfl
    rw [h0] at hV
    have hV := hid hV
    have hT : Calls Tryz.prog 39 #[.string s] w fun e w' => e = .returned (.tuple #[.slice none 0 0, .bool false]) ∧ w = w' := by
      clear hR hV h0 hll
      go_enter Tryz.func39, Tryz.ntmps39
      go_wp2
      go_ret2
      exact ⟨rfl, rfl⟩
    have hT := hid hT
    clear hR h0 hll
    go_enter Tryz.func30, Tryz.ntmps30
    go_wp2_with (first | (go_at_call 39; refine (hT.out).mono ?_; rintro e w' ⟨rfl, rfl⟩) | (go_at_call 58; refine (hV.out _).mono ?_; rintro e w1 ⟨rfl, hb1⟩; first | (have hk1 := bchain (by assumption) hb1; obtain ⟨hc1, hf1, hz1, hl1⟩ := bcell hk1) | (obtain ⟨hc1, hf1, hz1, hl1⟩ := bcell hb1)))
    go_ret2
    exact ⟨_, rfl, World.ownsRow_nil _ _ _ _, (by repeat' (first | exact Below.refl _ _ | (with_reducible first | assumption | exact Nat.le_refl _ | refine Below.alloc ?_ ?_ _ | refine Below.setCell ?_ ?_ _ | refine Below.drew ?_ | refine below_drewN ?_ _) | refine Below.trans ?_ (Below.mono (by assumption) ?_) | exact Below.size (by assumption) | omega | go_size | (simp at *; omega)))⟩
  · have hT := readThrows_any s (by omega) w
    have hRd : Hid (rReadPattern s = if okP (rdDig s.data.toList) then (rdDig s.data.toList, true) else ([], false)) := rfl
    generalize rReadPattern s = RR at *
    generalize rdDig s.data.toList = R at *
    generalize thOk R = tb at *
    have hT := hid hT
    have HL := hid hll
    clear hll
    go_enter Tryz.func30, Tryz.ntmps30
    go_wp2_with fail
    refine hT.out.mono ?_
    rintro e w1 ⟨v1, rfl, ho1, hb1⟩
    obtain ⟨A1, c1, rfl⟩ := own_form ho1
    have hV := ValidPattern_any A1 s.size c1 R w1 (by omega) (Rd.of_own ho1)
    have hz1 := hb1.size
    cases hok : okP R with
    | true =>
      rw [hok] at hV
      have hV := hid hV
      have HO : Hid (RR = (R, true)) := by show _ = _; rw [hRd.out, hok]; rfl
      clear hok hRd hT
      go_wp2_with (go_at_call 58; refine hV.out.mono ?_; rintro e w2 ⟨rfl, hb2⟩)
      go_ret2
      rw [HO.out]
      exact ⟨_, rfl, by show World.ownsRow _ _ _ _ _ R.length _; rw [HL.out]; exact own_below ho1 hb2, (by repeat' (first | exact Below.refl _ _ | (with_reducible first | assumption | exact Nat.le_refl _ | refine Below.alloc ?_ ?_ _ | refine Below.setCell ?_ ?_ _ | refine Below.drew ?_ | refine below_drewN ?_ _) | refine Below.trans ?_ (Below.mono (by assumption) ?_) | exact Below.size (by assumption) | omega | go_size | (simp at *; omega)))⟩
    | false =>
      rw [hok] at hV
      have hV := hid hV
      have HO : Hid (RR = ([], false)) := by show _ = _; rw [hRd.out, hok]; rfl
      clear hok hRd hT
      go_wp2_with (go_at_call 58; refine hV.out.mono ?_; rintro e w2 ⟨rfl, hb2⟩)
      go_ret2
      rw [HO.out]
      exact ⟨_, rfl, World.ownsRow_nil _ _ _ _, (by repeat' (first | exact Below.refl _ _ | (with_reducible first | assumption | exact Nat.le_refl _ | refine Below.alloc ?_ ?_ _ | refine Below.setCell ?_ ?_ _ | refine Below.drew ?_ | refine below_drewN ?_ _) | refine Below.trans ?_ (Below.mono (by assumption) ?_) | exact Below.size (by assumption) | omega | go_size | (simp at *; omega)))⟩
end Go.Proofs.YtgphkfnobmponaaGreat

/- Contracts of the functions of synchronous patterns: validity, equality, props, crossings, mirror images, stars. -/
namespace Go.Proofs.YtgphkfnobmponaaGreat
open Go.RowKit
set_option linter.unusedVariables false

theorem syC_one (p : List Beat) (h : 1 ≤ p.length) : syC p = col2 (syL p) (2 * p.length - 1) 1 := by
  unfold syC
  obtain ⟨n, hn⟩ : ∃ n, 2 * p.length = n + 1 := ⟨2 * p.length - 1, by omega⟩
  rw [hn, col2_none1 rfl]; simp
theorem syOk_code (p : List Beat) : syOk p = ((rSyncClash p).2.2 == 0) := by
  unfold syOk rSyncClash
  cases h : beatsOk p with
  | false => rfl
  | true =>
    simp only [if_true, Bool.true_and]
    cases hc : syC p with
    | none => rfl
    | some x => obtain ⟨a, b⟩ := x; rfl
def clash2 : Option (Nat × Nat) → Int × Int
  | some (i, k) => ((i : Int), (k : Int))
  | none => (-1, -1)
theorem syOk_clash {p : List Beat} (h : beatsOk p = true) : syOk p = decide ((clash2 (syC p)).1 < 0) := by
  unfold syOk
  rw [h, Bool.true_and]
  cases hc : syC p with
  | none => rfl
  | some x => obtain ⟨a, b⟩ := x; exact (decide_eq_false (show ¬ ((a : Int) < 0) by omega)).symm
theorem syOk_b {p : List Beat} (h : syOk p = true) : beatsOk p = true := by unfold syOk at h; rw [Bool.and_eq_true] at h; exact h.1
theorem syOk_bd {p : List Beat} (h : syOk p = true) : 1 ≤ p.length ∧ p.length ≤ 6 := (beatsOk_iff.1 (syOk_b h)).2
/-- What is known of a beat of a list of beats. -/
theorem beat_bd {p : List Beat} (h : beatsOk p = true) {x : Beat} (hx : x ∈ p) : 0 ≤ x.1.1 ∧ x.1.1 ≤ 14 ∧ 0 ≤ x.2.1 ∧ x.2.1 ≤ 14 := by
  have h1 := (beatsOk_iff.1 h).1 x hx
  have h2 := (thrOk_iff.1 h1.1).1
  have h3 := (thrOk_iff.1 h1.2).1
  exact ⟨h2.1, h2.2, h3.1, h3.2⟩
theorem ValidSync_any (A : Option Addr) (n c : Nat) (p : List Beat) (w : World) (hn : n ≤ 1099511627776) (hr : Rd w w.heap.size 4 A n (bts p)) :
    Calls Tryz.prog 60 #[.slice A n c] w fun e w' => e = .returned (.bool (syOk p)) ∧ Below w.heap.size w w' := by
  have h1 := hid (SyncClash_any A n c p w hn hr)
  rw [syOk_code]
  clear hr
  generalize rSyncClash p = r at *
  obtain ⟨a, b, d⟩ := r
  go_enter Tryz.func60, Tryz.ntmps60
  go_wp2_with (go_at_call 102; refine (h1.out).mono ?_; rintro e w1 ⟨rfl, hb1⟩; first | (have hk1 := bchain (by assumption) hb1; obtain ⟨hc1, hf1, hz1, hl1⟩ := bcell hk1) | (obtain ⟨hc1, hf1, hz1, hl1⟩ := bcell hb1))
  go_ret
  exact ⟨rfl, (by repeat' (first | exact Below.refl _ _ | (with_reducible first | assumption | exact Nat.le_refl _ | refine Below.alloc ?_ ?_ _ | refine Below.setCell ?_ ?_ _ | refine Below.drew ?_ | refine below_drewN ?_ _) | refine Below.trans ?_ (Below.mono (by assumption) ?_) | exact Below.size (by assumption) | omega | go_size | (simp at *; omega)))⟩
set_option maxHeartbeats 400000 in
theorem l05Clash_any (A : Option Addr) (n c : Nat) (p : List Beat) (w : World) (hp : beatsOk p = true) (hr : Rd w w.heap.size 4 A n (bts p)) :
    Calls Tryz.prog 119 #[.slice A n c] w fun e w' => e = .returned (.tuple #[.int .i64 (clash2 (syC p)).1, .int .i64 (clash2 (syC p)).2]) ∧ Below w.heap.size w w' := by
  have hlen := hr.bt_len
  have h6 := (beatsOk_iff.1 hp).2.2
  have h1 := (beatsOk_iff.1 hp).2.1
  have hst : Hid (col2 (syL p) (2 * n - 1) 1 = syC p) := by show _ = _; rw [syC_one p h1, hlen]
  rw [hlen] at h6 h1
  have hLd := hid (fun (w1 : World) (b : Below w.heap.size w w1) (k : Nat) (hk : k < 2 * n) => l05Land_any A n c k p w1 hp hk ((hr.below b (Nat.le_refl _)).more b.size))
  obtain ⟨N, hN⟩ : ∃ N : Nat, 2 * (n : Int) = (N : Int) := ⟨2 * n, by omega⟩
  have hNn : N = 2 * n := by omega
  rw [← hNn] at hst
  have hLd := hid (fun (w1 : World) (b : Below w.heap.size w w1) (k : Nat) (hk : k < N) => hLd.out w1 b k (by omega))
  have hN6 : N ≤ 12 := by omega
  have hN1 : 1 ≤ N := by omega
  generalize syL p = L at *
  generalize syC p = C at *
  clear hr hlen hp hNn
  go_enter Tryz.func119, Tryz.ntmps119
  go_wp2
  go_loopw [4] (fun i wr => Hid (∃ k : Nat, 1 ≤ k ∧ k ≤ N ∧ i = .int .i64 k ∧ Hid (col2 L (N - k) k = C) ∧ Below w.heap.size w wr)) (fun i _ => N - (intOf i).toNat)
  case atStart => exact hid ⟨1, by omega, by omega, rfl, hst, (by repeat' (first | exact Below.refl _ _ | (with_reducible first | assumption | exact Nat.le_refl _ | refine Below.alloc ?_ ?_ _ | refine Below.setCell ?_ ?_ _ | refine Below.drew ?_ | refine below_drewN ?_ _) | refine Below.trans ?_ (Below.mono (by assumption) ?_) | exact Below.size (by assumption) | omega | go_size | (simp at *; omega)))⟩
  case round =>
    obtain ⟨k, hk1, hk, rfl, he, hb0⟩ := hrel.out
    clear hrel hst
    by_cases hlt : k < N
    · obtain ⟨wo, rfl⟩ : ∃ wo : World, wo = wr := ⟨_, rfl⟩
      go_wp2
      clear hN
      go_loopw [5] (fun i w2 => Hid (∃ j : Nat, j ≤ k ∧ i = .int .i64 j ∧ Hid (col1 L k (k - j) j = col1 L k k 0) ∧ Below w.heap.size w w2)) (fun i _ => k - (intOf i).toNat)
      case atStart => exact hid ⟨0, Nat.zero_le _, rfl, rfl, hb0⟩
      case round =>
        obtain ⟨j, hj, rfl, he2, hb2⟩ := hrel.out
        clear hrel hb0
        by_cases hlj : j < k
        · have hkj : k - j = (k - (j + 1)) + 1 := by omega
          have hC1 := hid (hLd.out _ hb2 j (by omega))
          have hC2 := hid (fun (w1 : World) (b : Below w.heap.size w w1) => hLd.out w1 b k hlt)
          obtain ⟨x, hx⟩ : ∃ x, L j = x := ⟨_, rfl⟩
          obtain ⟨y, hy⟩ : ∃ y, L k = y := ⟨_, rfl⟩
          by_cases hxy : L j = L k
          · have HZ : Hid (C = some (j, k)) := by
              show _ = _
              have h3 := he2.out
              rw [hkj] at h3
              have h4 : col1 L k (k - (j + 1) + 1) j = some j := by rw [col1, if_pos hxy]
              rw [h4] at h3
              have h5 := he.out
              have hkk : N - k = (N - (k + 1)) + 1 := by omega
              rw [hkk, col2_some1 h3.symm] at h5
              exact h5.symm
            have hq : (x == y) = true := by rw [← hx, ← hy]; simpa using hxy
            rw [hx] at hC1
            rw [hy] at hC2
            clear he he2 hkj hxy hx hy
            go_wp2_with fail
            refine hC1.out.mono ?_
            rintro e w3 ⟨rfl, hb3⟩
            have hb3 := bchain hb2 hb3
            go_wp2_with fail
            refine (hC2.out _ hb3).mono ?_
            rintro e w4 ⟨rfl, hb4⟩
            have hb4 := bchain hb3 hb4
            go_wp2
            go_ret2
            exact ⟨by rw [HZ.out]; first | done | rfl, (by repeat' (first | exact Below.refl _ _ | (with_reducible first | assumption | exact Nat.le_refl _ | refine Below.alloc ?_ ?_ _ | refine Below.setCell ?_ ?_ _ | refine Below.drew ?_ | refine below_drewN ?_ _) | refine Below.trans ?_ (Below.mono (by assumption) ?_) | exact Below.size (by assumption) | omega | go_size | (simp at *; omega)))⟩
          · have HZ : Hid (col1 L k (k - (j + 1)) (j + 1) = col1 L k k 0) := by
              show _ = _
              have h3 := he2.out
              rw [hkj] at h3
              rw [← h3, col1, if_neg hxy]
            have hq : (x == y) = false := by rw [← hx, ← hy]; simpa using hxy
            rw [hx] at hC1
            rw [hy] at hC2
            clear he2 hkj hxy hx hy
            go_wp2_with fail
            refine hC1.out.mono ?_
            rintro e w3 ⟨rfl, hb3⟩
            have hb3 := bchain hb2 hb3
            go_wp2_with fail
            refine (hC2.out _ hb3).mono ?_
            rintro e w4 ⟨rfl, hb4⟩
            have hb4 := bchain hb3 hb4
            go_wp2
            go_roundw
            case rel => exact hid ⟨j + 1, by omega, by go_num, HZ, (by repeat' (first | exact Below.refl _ _ | (with_reducible first | assumption | exact Nat.le_refl _ | refine Below.alloc ?_ ?_ _ | refine Below.setCell ?_ ?_ _ | refine Below.drew ?_ | refine below_drewN ?_ _) | refine Below.trans ?_ (Below.mono (by assumption) ?_) | exact Below.size (by assumption) | omega | go_size | (simp at *; omega)))⟩
            case measure => simp [intOf]; omega
        · have HZ : Hid (col2 L (N - (k + 1)) (k + 1) = C) := by
            show _ = _
            have hjk : j = k := by omega
            have h3 := he2.out
            rw [hjk, Nat.sub_self] at h3
            have hkk : N - k = (N - (k + 1)) + 1 := by omega
            rw [← he.out, hkk, col2_none1 h3.symm]
          clear he he2
          go_wp2
          go_roundw
          case rel => exact hid ⟨k + 1, by omega, by omega, by go_num, HZ, (by repeat' (first | exact Below.refl _ _ | (with_reducible first | assumption | exact Nat.le_refl _ | refine Below.alloc ?_ ?_ _ | refine Below.setCell ?_ ?_ _ | refine Below.drew ?_ | refine below_drewN ?_ _) | refine Below.trans ?_ (Below.mono (by assumption) ?_) | exact Below.size (by assumption) | omega | go_size | (simp at *; omega)))⟩
          case measure => simp [intOf]; omega
    · have HZ : Hid (C = none) := by
        show _ = _
        have h5 := he.out
        have hkn : N - k = 0 := by omega
        rw [hkn] at h5
        exact h5.symm
      clear he
      go_wp2
      go_ret2
      exact ⟨by rw [HZ.out]; first | done | rfl, hb0⟩
theorem l05Ok_any (A : Option Addr) (n c : Nat) (p : List Beat) (w : World) (hn : n ≤ 1099511627776) (hr : Rd w w.heap.size 4 A n (bts p)) :
    Calls Tryz.prog 86 #[.slice A n c] w fun e w' => e = .returned (.bool (syOk p)) ∧ Below w.heap.size w w' := by
  have hL := l05List_any A n c p w hn hr
  cases hp : beatsOk p with
  | true =>
    rw [hp] at hL
    have hL := hid hL
    have hC := hid (fun (w1 : World) (b : Below w.heap.size w w1) => l05Clash_any A n c p w1 hp ((hr.below b (Nat.le_refl _)).more b.size))
    have HO := hid (syOk_clash hp)
    generalize clash2 (syC p) = r at *
    obtain ⟨r1, r2⟩ := r
    clear hr hp
    go_enter Tryz.func86, Tryz.ntmps86
    go_wp2_with fail
    refine hL.out.mono ?_
    rintro e w1 ⟨rfl, hb1⟩
    go_wp2_with fail
    refine (hC.out w1 hb1).mono ?_
    rintro e w2 ⟨rfl, hb2⟩
    go_wp2
    go_ret
    exact ⟨ret_bool HO.out.symm, (by repeat' (first | exact Below.refl _ _ | (with_reducible first | assumption | exact Nat.le_refl _ | refine Below.alloc ?_ ?_ _ | refine Below.setCell ?_ ?_ _ | refine Below.drew ?_ | refine below_drewN ?_ _) | refine Below.trans ?_ (Below.mono (by assumption) ?_) | exact Below.size (by assumption) | omega | go_size | (simp at *; omega)))⟩
  | false =>
    rw [hp] at hL
    have hL := hid hL
    have HO : Hid (syOk p = false) := by show _ = _; simp [syOk, hp]
    clear hr hp
    go_enter Tryz.func86, Tryz.ntmps86
    go_wp2_with fail
    refine hL.out.mono ?_
    rintro e w1 ⟨rfl, hb1⟩
    go_wp2
    go_ret
    exact ⟨ret_bool HO.out.symm, (by repeat' (first | exact Below.refl _ _ | (with_reducible first | assumption | exact Nat.le_refl _ | refine Below.alloc ?_ ?_ _ | refine Below.setCell ?_ ?_ _ | refine Below.drew ?_ | refine below_drewN ?_ _) | refine Below.trans ?_ (Below.mono (by assumption) ?_) | exact Below.size (by assumption) | omega | go_size | (simp at *; omega)))⟩
end Go.Proofs.YtgphkfnobmponaaGreat

/- Plain facts: patterns whose beats are beats of another pattern, in an order that the states allow: cuts, rotations, repetitions. Nothing of the program is named here. -/
namespace Go.Proofs.YtgphkfnobmponaaGreat
open Go.RowKit
set_option linter.unusedVariables false

/-- Before the beat b a prop is in the air that lands t beats later. -/
def Air (p : List Int) (b : Int) (t : Nat) : Prop := lf p (b + (t : Int)) < b
theorem atB_per (p : List Int) (b r : Int) : atB p (b + r * (p.length : Int)) = atB p b := by
  unfold atB; rw [Int.add_mul_emod_self_right]
theorem ok_of_inj {q : List Int} (h : thOk q = true) (hinj : ∀ a b : Int, a < b → a + atB q a ≠ b + atB q b) : okP q = true := by
  have hl := (thOk_iff h).2.1
  unfold okP
  rw [h, Bool.true_and]
  cases hc : colP q with
  | none => rfl
  | some x =>
    exfalso
    obtain ⟨a, b⟩ := x
    obtain ⟨g1, g2, g3, g4⟩ := col2_some (show col2 (Ld q) q.length 0 = some (a, b) from hc)
    have ha : atB q (a : Int) = q.getD a 0 := by unfold atB; rw [Int.emod_eq_of_lt (by omega) (by omega), Int.toNat_natCast]
    have hb : atB q (b : Int) = q.getD b 0 := by unfold atB; rw [Int.emod_eq_of_lt (by omega) (by omega), Int.toNat_natCast]
    unfold Ld at g4
    rw [← ha, ← hb] at g4
    obtain ⟨r, hr⟩ := Int.dvd_of_emod_eq_zero (Int.emod_eq_emod_iff_emod_sub_eq_zero.1 g4)
    have hbr := atB_per q (b : Int) r
    have e : (a : Int) + atB q a = ((b : Int) + r * (q.length : Int)) + atB q ((b : Int) + r * (q.length : Int)) := by
      rw [hbr]
      have : (q.length : Int) * r = r * (q.length : Int) := Int.mul_comm _ _
      omega
    rcases Int.lt_trichotomy (a : Int) ((b : Int) + r * (q.length : Int)) with k | k | k
    · exact hinj _ _ k e
    · -- the two beats are one: not so
      rcases Int.lt_trichotomy r 0 with kr | kr | kr
      · have : r * (q.length : Int) ≤ -1 * (q.length : Int) := Int.mul_le_mul_of_nonneg_right (by omega) (by omega)
        omega
      · subst kr; omega
      · have : 1 * (q.length : Int) ≤ r * (q.length : Int) := Int.mul_le_mul_of_nonneg_right (by omega) (by omega)
        omega
    · exact hinj _ _ k e.symm
/-- q's beats are beats of p, in an order that the states allow. -/
def Fold (p q : List Int) (f : Int → Int) : Prop := (∀ x, atB q x = atB p (f x)) ∧ ∀ x t, Air p (f x + 1) t ↔ Air p (f (x + 1)) t
section
variable {p q : List Int} {f : Int → Int}
theorem Fold.fly (h : okP p = true) (hf : Fold p q f) (a : Int) : ∀ (d : Nat) (t : Nat), (d : Int) + 1 + (t : Int) = atB q a → Air p (f (a + 1 + (d : Int))) t := by
  intro d
  induction d with
  | zero =>
    intro t ht
    have e : a + 1 + ((0 : Nat) : Int) = a + 1 := by omega
    rw [e, ← hf.2]
    have := lf_eq_of h (b := f a) (c := f a + 1 + (t : Int)) (by rw [← hf.1]; omega)
    unfold Air; omega
  | succ d ih =>
    intro t ht
    have h1 := ih (t + 1) (by omega)
    have e : a + 1 + ((d + 1 : Nat) : Int) = (a + 1 + (d : Int)) + 1 := by omega
    rw [e, ← hf.2]
    unfold Air at h1 ⊢
    have e2 : f (a + 1 + (d : Int)) + ((t + 1 : Nat) : Int) = f (a + 1 + (d : Int)) + 1 + (t : Int) := by omega
    rw [e2] at h1
    omega
theorem Fold.ok (h : okP p = true) (hq : thOk q = true) (hf : Fold p q f) : okP q = true := by
  refine ok_of_inj hq fun a b hab e => ?_
  have hb0 : 0 ≤ atB q b := by rw [hf.1]; exact (atB_bd h _).1
  obtain ⟨d, hd⟩ := Int.eq_ofNat_of_zero_le (show 0 ≤ b - a - 1 by omega)
  obtain ⟨t, ht⟩ := Int.eq_ofNat_of_zero_le hb0
  have h1 := hf.fly h a d t (by omega)
  have e1 : a + 1 + (d : Int) = b := by omega
  rw [e1] at h1
  have h2 := lf_eq_of h (b := f b) (c := f b + (t : Int)) (by rw [← hf.1]; omega)
  unfold Air at h1
  omega
theorem air_high (h : okP p = true) {b : Int} {t : Nat} (ht : 15 ≤ t) : ¬ Air p b t := by
  have := lf_bd h (b + (t : Int))
  unfold Air; omega
theorem Fold.air (h : okP p = true) (hq : thOk q = true) (hf : Fold p q f) (x : Int) (t : Nat) : Air q x t ↔ Air p (f x) t := by
  have hok := hf.ok h hq
  constructor
  · intro k
    have e := lf_at hok (x + (t : Int))
    unfold Air at k
    obtain ⟨d, hd⟩ := Int.eq_ofNat_of_zero_le (show 0 ≤ x - lf q (x + (t : Int)) - 1 by omega)
    have := hf.fly h (lf q (x + (t : Int))) d t (by omega)
    have e1 : lf q (x + (t : Int)) + 1 + (d : Int) = x := by omega
    rwa [e1] at this
  · -- back to the throw
    have key : ∀ (n : Nat) (x : Int) (t : Nat), 15 ≤ t + n → Air p (f x) t → Air q x t := by
      intro n
      induction n with
      | zero => intro x t ht k; exact absurd k (air_high h (by omega))
      | succ n ih =>
        intro x t ht k
        have e0 : x - 1 + 1 = x := by omega
        have k2 := (hf.2 (x - 1) t).2 (by rw [e0]; exact k)
        unfold Air at k2
        by_cases e : lf p (f (x - 1) + 1 + (t : Int)) = f (x - 1)
        · have e1 := lf_at h (f (x - 1) + 1 + (t : Int))
          rw [e] at e1
          have e2 := hf.1 (x - 1)
          have := lf_eq_of hok (b := x - 1) (c := x + (t : Int)) (by omega)
          unfold Air; omega
        · have k3 := ih (x - 1) (t + 1) (by omega) (by
            unfold Air
            have e2 : f (x - 1) + ((t + 1 : Nat) : Int) = f (x - 1) + 1 + (t : Int) := by omega
            rw [e2]; omega)
          unfold Air at k3 ⊢
          have e2 : x - 1 + ((t + 1 : Nat) : Int) = x + (t : Int) := by omega
          rw [e2] at k3
          omega
    exact key 15 x t (by omega)
end
end Go.Proofs.YtgphkfnobmponaaGreat

/- Plain facts: rotations, reversals, exchanged landings, raised and shifted throws, and duals of patterns. Nothing of the program is named here. -/
namespace Go.Proofs.YtgphkfnobmponaaGreat
open Go.RowKit
set_option linter.unusedVariables false

theorem ok_mk {q : List Int} (h : thOk q = true) (hinj : ∀ a b : Nat, a < b → b < q.length → Ld q a ≠ Ld q b) : okP q = true := by
  unfold okP
  rw [h, Bool.true_and]
  cases hc : colP q with
  | none => rfl
  | some x =>
    exfalso
    obtain ⟨a, b⟩ := x
    obtain ⟨g1, g2, g3, g4⟩ := col2_some (show col2 (Ld q) q.length 0 = some (a, b) from hc)
    exact hinj a b g1 (by omega) g4
theorem getD_set' (L : List Int) (a : Nat) (x : Int) (j : Nat) : (L.set a x).getD j 0 = if a = j ∧ j < L.length then x else L.getD j 0 := by
  rw [List.getD_eq_getElem?_getD, List.getD_eq_getElem?_getD, List.getElem?_set]
  by_cases h1 : a = j
  · subst h1
    by_cases h2 : a < L.length
    · simp [h2]
    · simp [h2]
  · simp [h1]
/-- Two landings exchanged. -/
def swapP (p : List Int) (i k : Nat) : List Int := (p.set i (p.getD k 0 + (k : Int) - (i : Int))).set k (p.getD i 0 + (i : Int) - (k : Int))
theorem swapP_len (p : List Int) (i k : Nat) : (swapP p i k).length = p.length := by simp [swapP]
theorem swapP_getD {p : List Int} {i k : Nat} (hi : i < p.length) (hk : k < p.length) (j : Nat) : (swapP p i k).getD j 0 = if j = k then p.getD i 0 + (i : Int) - (k : Int) else if j = i then p.getD k 0 + (k : Int) - (i : Int) else p.getD j 0 := by
  unfold swapP
  rw [getD_set', getD_set', List.length_set]
  by_cases h1 : j = k
  · subst h1; simp [hk]
  · rw [if_neg (fun e => h1 e.1.symm), if_neg h1]
    by_cases h2 : j = i
    · subst h2; simp [hi]
    · rw [if_neg (fun e => h2 e.1.symm), if_neg h2]
def tr (i k j : Nat) : Nat := if j = k then i else if j = i then k else j
theorem swapP_Ld {p : List Int} {i k : Nat} (hi : i < p.length) (hk : k < p.length) (j : Nat) : Ld (swapP p i k) j = Ld p (tr i k j) := by
  unfold Ld tr
  rw [swapP_getD hi hk, swapP_len]
  by_cases h1 : j = k
  · subst h1; rw [if_pos rfl, if_pos rfl, show (j : Int) + (p.getD i 0 + (i : Int) - (j : Int)) = (i : Int) + p.getD i 0 by omega]
  · rw [if_neg h1, if_neg h1]
    by_cases h2 : j = i
    · subst h2; rw [if_pos rfl, if_pos rfl, show (j : Int) + (p.getD k 0 + (k : Int) - (j : Int)) = (k : Int) + p.getD k 0 by omega]
    · rw [if_neg h2, if_neg h2]
end Go.Proofs.YtgphkfnobmponaaGreat
