/- Contracts of the texts of patterns: PatternText, hexOf, readThrows, ReadPattern. -/
import Derived.Test.YtkglkpohbckpcaaTx
import Derived.Test.YtkglkpohbckpcaaDw
import Derived.Test.YtkglkpohbckpcaaC
namespace Go.Proofs.Ytkglkpohbckpcaa
open Go.RowKit
set_option linter.unusedVariables false

/-- The byte of a throw. -/
def hexB (t : Int) : Int := if t ≤ 9 then 48 + t else 87 + t
def hexS : ByteArray := ⟨#[48, 49, 50, 51, 52, 53, 54, 55, 56, 57, 97, 98, 99, 100, 101, 102]⟩
theorem hexS_size : hexS.size = 16 := by decide
theorem hexS_at : ∀ t : Fin 16, ((hexS[t.val]'(by have := t.isLt; rw [hexS_size]; exact this)).toNat : Int) = hexB (t.val : Int) := by decide
theorem rDig_hexB {t : Int} (h0 : 0 ≤ t) (h1 : t ≤ 15) : rDig (hexB t) = t := by
  unfold hexB rDig
  split <;> split <;> (try split) <;> omega
theorem rDig_cases (c : Int) : rDig c = -1 ∨ (0 ≤ rDig c ∧ rDig c ≤ 15 ∧ hexB (rDig c) = c) := by
  unfold rDig
  split
  · right; unfold hexB; split <;> omega
  · split
    · right; unfold hexB; split <;> omega
    · left; rfl
theorem hexB_bd {t : Int} (h0 : 0 ≤ t) (h1 : t ≤ 15) : 0 ≤ hexB t ∧ hexB t ≤ 255 := by unfold hexB; split <;> omega
theorem hexOf_any (c : Int) (c0 : 0 ≤ c) (c1 : c ≤ 255) (w : World) : Calls Try.prog 111 #[.int .u8 c] w fun e w' => e = .returned (.int .i64 (rDig c)) ∧ w = w' := by
  go_enter Try.func111, Try.ntmps111
  go_wp2
  go_loop [4] (fun i => Hid (∃ k : Nat, k ≤ 16 ∧ i = .int .i64 k ∧ ∀ j : Nat, j < k → hexB j ≠ c)) (fun i => 16 - (intOf i).toNat)
  case atStart => exact hid ⟨0, by omega, rfl, fun j h => by omega⟩
  case round =>
    obtain ⟨k, hk, rfl, hall⟩ := hrel.out
    by_cases hlt : k < 16
    · have hS := hexS_at ⟨k, hlt⟩
      obtain ⟨y, hy⟩ : ∃ y, hexB (k : Int) = y := ⟨_, rfl⟩
      have hS : ((({ data := #[48, 49, 50, 51, 52, 53, 54, 55, 56, 57, 97, 98, 99, 100, 101, 102] } : ByteArray)[k]'(by rw [show ({ data := #[48, 49, 50, 51, 52, 53, 54, 55, 56, 57, 97, 98, 99, 100, 101, 102] } : ByteArray).size = 16 from rfl]; exact hlt)).toNat : Int) = y := by rw [← hy]; exact hS
      by_cases hyc : y = c
      · have hd : Hid (rDig c = (k : Int)) := by
          show _ = _
          rw [← hyc, ← hy]; exact rDig_hexB (by omega) (by omega)
        subst hyc
        have HY := hid hy
        clear hy hall hrel
        go_wp2
        go_ret
        exact ⟨ret_int hd.out.symm, rfl⟩
      · have hq : (y == c) = false := by simpa using hyc
        have HA : Hid (∀ j : Nat, j < k + 1 → hexB j ≠ c) := by
          intro j hj
          rcases Nat.lt_or_eq_of_le (Nat.le_of_lt_succ hj) with h | h
          · exact hall j h
          · subst h; rw [hy]; exact hyc
        clear hy hall hrel hyc
        go_wp2
        go_round
        case rel => exact hid ⟨k + 1, by omega, by go_num, HA.out⟩
        case measure => simp [intOf]; omega
    · have hd : Hid (rDig c = -1) := by
        show _ = _
        rcases rDig_cases c with h | ⟨h0, h1, h2⟩
        · exact h
        · exact absurd (by rw [Int.toNat_of_nonneg h0]; exact h2) (hall (rDig c).toNat (by omega))
      go_wp2
      go_ret
      exact ⟨ret_int hd.out.symm, rfl⟩
def patS (p : List Int) : ByteArray := strOfNums (p.map hexB)
theorem inf_b8 : (Try.prog.info? 5).map (fun i => (i.zero, i.size, i.bytes)) = some (some (.int .u8 0), 1, 1) := by kernel_rfl
theorem PatternText_ok (A : Option Addr) (n c : Nat) (p : List Int) (w : World) (hp : okP p = true) (hr : Rd w w.heap.size 1 A n (ints p)) :
    Calls Try.prog 102 #[.slice A n c] w fun e w' => e = .returned (.string (patS p)) ∧ Below w.heap.size w w' := by
  have hlen := hr.len
  obtain ⟨hbd, hn1, hn2⟩ := thOk_iff (okP_th hp)
  have hV := ValidPattern_any A n c p w (by omega) hr
  rw [hp] at hV
  have hV := hid hV
  have HR := hid hr
  have hbd := hid hbd
  have hn2 : n ≤ 12 := by omega
  have hlen' := hid hlen
  have hs : Hid (patS p = strOfNums (p.map hexB)) := rfl
  generalize patS p = R at *
  clear hp hr hlen
  go_enter Try.func102, Try.ntmps102
  go_wp2_with (go_at_call 90; refine (hV.out).mono ?_; rintro e w1 ⟨rfl, hb1⟩; first | (have hk1 := bchain (by assumption) hb1; obtain ⟨hc1, hf1, hz1, hl1⟩ := bcell hk1) | (obtain ⟨hc1, hf1, hz1, hl1⟩ := bcell hb1))
  go_loopw [3, 12] (fun v i wr => Hid (∃ k : Nat, k ≤ n ∧ i = .int .i64 k ∧ wr.ownsRow w.heap.size 5 1 v ((p.take k).map hexB).length (byts ((p.take k).map hexB)) ∧ Below w.heap.size w wr)) (fun _ i _ => n - (intOf i).toNat)
  case atStart => exact hid ⟨0, Nat.zero_le _, rfl, World.ownsRow_lit _ _ 0 (by first | exact hb1.size | omega) (by simp [maxLen]) rfl, (by repeat' (first | exact Below.refl _ _ | (with_reducible assumption) | (with_reducible refine Below.alloc ?_ ?_ _) | (with_reducible refine Below.setCell ?_ ?_ _) | (with_reducible refine Below.drew ?_) | (with_reducible refine below_drewN ?_ _) | (refine Below.trans ?_ (Below.mono (by assumption) ?_)) | (with_reducible exact Nat.le_refl _) | (with_reducible assumption) | (exact Below.size (by assumption)) | omega | go_size | (simp at *; omega)))⟩
  case round =>
    obtain ⟨k, hk, rfl, ho, hb0⟩ := hrel.out
    have hB := hb0.size
    have hol : ((p.take k).map hexB).length ≤ 12 := by rw [List.length_map, List.length_take]; omega
    by_cases hlt : k < n
    · obtain ⟨b, off, x, rfl, hb, hx, hd, hc⟩ := (HR.out.below hb0 (Nat.le_refl _)).at_ hlt
      obtain ⟨x0, x1⟩ := hbd.out x (List.mem_of_getElem? hx)
      obtain ⟨t, rfl⟩ := Int.eq_ofNat_of_zero_le x0
      have ht : t < 16 := by omega
      have hS := hexS_at ⟨t, ht⟩
      obtain ⟨y, hy⟩ : ∃ y, hexB (t : Int) = y := ⟨_, rfl⟩
      have hS : ((({ data := #[48, 49, 50, 51, 52, 53, 54, 55, 56, 57, 97, 98, 99, 100, 101, 102] } : ByteArray)[t]'(by rw [show ({ data := #[48, 49, 50, 51, 52, 53, 54, 55, 56, 57, 97, 98, 99, 100, 101, 102] } : ByteArray).size = 16 from rfl]; exact ht)).toNat : Int) = y := by rw [← hy]; exact hS
      have hyb := hexB_bd x0 x1
      rw [hy] at hyb
      obtain ⟨y0, y1⟩ := hyb
      have HT : Hid ((p.take (k + 1)).map hexB = (p.take k).map hexB ++ [y]) := by show _ = _; rw [List.take_add_one, hx, ← hy]; simp
      generalize (p.take k).map hexB = out at *
      have htn : (t : Int).toNat = t := by omega
      clear hx hd hb hy hrel
      go_wp2_with (at_builtin; refine push_u8 ho y _ Try.underlying49 inf_b8 rfl rfl _ _ rfl rfl rfl (by omega) hB ?_; intro v2 w2 ho2 hb2 hg2)
      go_roundw
      case rel => exact hid ⟨k + 1, by omega, by go_num, by rw [HT.out]; exact ho2, (by repeat' (first | exact Below.refl _ _ | (with_reducible assumption) | (with_reducible refine Below.alloc ?_ ?_ _) | (with_reducible refine Below.setCell ?_ ?_ _) | (with_reducible refine Below.drew ?_) | (with_reducible refine below_drewN ?_ _) | (refine Below.trans ?_ (Below.mono (by assumption) ?_)) | (with_reducible exact Nat.le_refl _) | (with_reducible assumption) | (exact Below.size (by assumption)) | omega | go_size | (simp at *; omega)))⟩
      case measure => simp [intOf]; omega
    · have hkn : k = n := by omega
      rw [List.take_of_length_le (by rw [hlen'.out]; omega)] at ho
      obtain ⟨A1, c1, rfl⟩ := own_form ho
      have hcv := string_own ho 49 Try.underlying49 Try.underlying5 9 Try.underlying9
      generalize p.map hexB = out at *
      clear hkn ho hrel
      go_wp2
      go_ret
      exact ⟨by rw [hs.out]; rfl, (by repeat' (first | exact Below.refl _ _ | (with_reducible assumption) | (with_reducible refine Below.alloc ?_ ?_ _) | (with_reducible refine Below.setCell ?_ ?_ _) | (with_reducible refine Below.drew ?_) | (with_reducible refine below_drewN ?_ _) | (refine Below.trans ?_ (Below.mono (by assumption) ?_)) | (with_reducible exact Nat.le_refl _) | (with_reducible assumption) | (exact Below.size (by assumption)) | omega | go_size | (simp at *; omega)))⟩
theorem readThrows_any (s : ByteArray) (hs : s.size ≤ 12) (w : World) :
    Calls Try.prog 116 #[.string s] w fun e w' => ∃ v, e = .returned (.tuple #[v, .bool (thOk (rdDig s.data.toList))]) ∧ w'.ownsRow w.heap.size 2 1 v s.size (ints (rdDig s.data.toList)) ∧ Below w.heap.size w w' := by
  have hst : Hid (([] : List Int) ++ rdDig (s.data.toList.drop 0) = rdDig s.data.toList) := rfl
  have hll := hid (rdDig_len s)
  generalize rdDig s.data.toList = R at *
  go_enter Try.func116, Try.ntmps116
  go_wp2
  go_loopw [4, 12] (fun v i wr => Hid (∃ (k : Nat) (out : List Int), k ≤ s.size ∧ i = .int .i64 k ∧ out.length ≤ s.size ∧ Hid (out ++ rdDig (s.data.toList.drop k) = R) ∧ wr.ownsRow w.heap.size 2 1 v out.length (ints out) ∧ Below w.heap.size w wr)) (fun _ i _ => s.size - (intOf i).toNat)
  case atStart => exact hid ⟨0, [], Nat.zero_le _, rfl, by simp, hst, World.ownsRow_lit _ _ 0 (Nat.le_refl _) (by simp [maxLen]) rfl, (by repeat' (first | exact Below.refl _ _ | (with_reducible assumption) | (with_reducible refine Below.alloc ?_ ?_ _) | (with_reducible refine Below.setCell ?_ ?_ _) | (with_reducible refine Below.drew ?_) | (with_reducible refine below_drewN ?_ _) | (refine Below.trans ?_ (Below.mono (by assumption) ?_)) | (with_reducible exact Nat.le_refl _) | (with_reducible assumption) | (exact Below.size (by assumption)) | omega | go_size | (simp at *; omega)))⟩
  case round =>
    obtain ⟨k, out, hk, rfl, hol, he, ho, hb0⟩ := hrel.out
    have hB := hb0.size
    have hRl : Hid (out.length + (s.size - k) = R.length) := by
      show _ = _
      rw [← he.out]; simp [rdDig]
    by_cases hlt : k < s.size
    · have HZ : Hid ((out ++ [rDig ((s[k]'hlt).toNat : Int)]) ++ rdDig (s.data.toList.drop (k + 1)) = R) := by
        show _ = _
        rw [← he.out, byte_drop s k hlt]; simp [rdDig]
      have hby : ((s[k]'hlt).toNat : Int) ≤ 255 := by have := (s[k]'hlt).toNat_lt; omega
      have hby0 : 0 ≤ ((s[k]'hlt).toNat : Int) := by omega
      have hD := hid (hexOf_any ((s[k]'hlt).toNat : Int) hby0 hby wr)
      have hol2 : out.length + 1 ≤ s.size := by have := hRl.out; have := hll.out; omega
      generalize rDig ((s[k]'hlt).toNat : Int) = d at *
      clear he hst hRl hrel
      go_wp2_with (first | (go_at_call 111; refine (hD.out).mono ?_; rintro e w' ⟨rfl, rfl⟩) | (at_builtin; refine push_int ho (d) _ Try.underlying22 inf_int rfl rfl _ _ rfl rfl rfl (by omega) (by omega) ?_; intro v1 w1 ho1 hb1 hg1))
      go_roundw
      case rel => exact hid ⟨k + 1, out ++ [d], by omega, by go_num, by rw [List.length_append]; exact hol2, HZ, ho1, (by repeat' (first | exact Below.refl _ _ | (with_reducible assumption) | (with_reducible refine Below.alloc ?_ ?_ _) | (with_reducible refine Below.setCell ?_ ?_ _) | (with_reducible refine Below.drew ?_) | (with_reducible refine below_drewN ?_ _) | (refine Below.trans ?_ (Below.mono (by assumption) ?_)) | (with_reducible exact Nat.le_refl _) | (with_reducible assumption) | (exact Below.size (by assumption)) | omega | go_size | (simp at *; omega)))⟩
      case measure => simp [intOf]; omega
    · have hkk : k = s.size := by omega
      have hR := he.out
      rw [List.drop_eq_nil_of_le (by simp; omega)] at hR
      simp only [rdDig, List.map_nil, List.append_nil] at hR
      subst hR
      obtain ⟨A4, c4, rfl⟩ := own_form ho
      have hT := areThrows_any A4 out.length c4 out wr (by omega) (Rd.of_own ho)
      obtain ⟨tb, htb⟩ : ∃ tb, thOk out = tb := ⟨_, rfl⟩
      rw [htb] at hT
      have hT := hid hT
      have HTB := hid htb
      clear htb hrel he hst hRl
      go_wp2_with (go_at_call 195; refine (hT.out).mono ?_; rintro e w' ⟨rfl, rfl⟩)
      go_ret2
      rw [HTB.out]
      exact ⟨_, rfl, by rw [← hll.out]; exact ho, (by repeat' (first | exact Below.refl _ _ | (with_reducible assumption) | (with_reducible refine Below.alloc ?_ ?_ _) | (with_reducible refine Below.setCell ?_ ?_ _) | (with_reducible refine Below.drew ?_) | (with_reducible refine below_drewN ?_ _) | (refine Below.trans ?_ (Below.mono (by assumption) ?_)) | (with_reducible exact Nat.le_refl _) | (with_reducible assumption) | (exact Below.size (by assumption)) | omega | go_size | (simp at *; omega)))⟩
def rReadPattern (s : ByteArray) : List Int × Bool := if okP (rdDig s.data.toList) then (rdDig s.data.toList, true) else ([], false)
theorem ReadPattern_any (s : ByteArray) (hs : s.size ≤ 1099511627776) (w : World) :
    Calls Try.prog 193 #[.string s] w fun e w' => ∃ v, e = .returned (.tuple #[v, .bool (rReadPattern s).2]) ∧ w'.ownsRow w.heap.size 2 1 v (rReadPattern s).1.length (ints (rReadPattern s).1) ∧ Below w.heap.size w w' := by
  have hll := rdDig_len s
  by_cases hbig : 12 < s.size
  · have hR : rReadPattern s = ([], false) := by
      have : okP (rdDig s.data.toList) = false := by
        cases h : okP (rdDig s.data.toList) with
        | false => rfl
        | true => have := (thOk_iff (okP_th h)).2.2; omega
      simp [rReadPattern, this]
    rw [hR]
    have hV := fun (w1 : World) => ValidPattern_any none 0 0 [] w1 (by omega) ⟨rfl, fun h => absurd h (by omega)⟩
    have h0 : okP [] = false := rfl
    rw [h0] at hV
    have hV := hid hV
    have hT : Calls Try.prog 116 #[.string s] w fun e w' => e = .returned (.tuple #[.slice none 0 0, .bool false]) ∧ w = w' := by
      clear hR hV h0 hll
      go_enter Try.func116, Try.ntmps116
      go_wp2
      go_ret2
      exact ⟨rfl, rfl⟩
    have hT := hid hT
    clear hR h0 hll
    go_enter Try.func193, Try.ntmps193
    go_wp2_with (first | (go_at_call 116; refine (hT.out).mono ?_; rintro e w' ⟨rfl, rfl⟩) | (go_at_call 90; refine (hV.out _).mono ?_; rintro e w1 ⟨rfl, hb1⟩; first | (have hk1 := bchain (by assumption) hb1; obtain ⟨hc1, hf1, hz1, hl1⟩ := bcell hk1) | (obtain ⟨hc1, hf1, hz1, hl1⟩ := bcell hb1)))
    go_ret2
    exact ⟨_, rfl, World.ownsRow_nil _ _ _ _, (by repeat' (first | exact Below.refl _ _ | (with_reducible assumption) | (with_reducible refine Below.alloc ?_ ?_ _) | (with_reducible refine Below.setCell ?_ ?_ _) | (with_reducible refine Below.drew ?_) | (with_reducible refine below_drewN ?_ _) | (refine Below.trans ?_ (Below.mono (by assumption) ?_)) | (with_reducible exact Nat.le_refl _) | (with_reducible assumption) | (exact Below.size (by assumption)) | omega | go_size | (simp at *; omega)))⟩
  · have hT := readThrows_any s (by omega) w
    have hRd : Hid (rReadPattern s = if okP (rdDig s.data.toList) then (rdDig s.data.toList, true) else ([], false)) := rfl
    generalize rReadPattern s = RR at *
    generalize rdDig s.data.toList = R at *
    generalize thOk R = tb at *
    have hT := hid hT
    have HL := hid hll
    clear hll
    go_enter Try.func193, Try.ntmps193
    go_wp2_with fail
    refine hT.out.mono ?_
    rintro e w1 ⟨v1, rfl, ho1, hb1⟩
    obtain ⟨A1, c1, rfl⟩ := own_form ho1
    have hV := ValidPattern_any A1 s.size c1 R w1 (by omega) (Rd.of_own ho1)
    have hz1 := hb1.size
    cases hok : okP R with
    | true =>
      rw [hok] at hV
      have hV := hid hV
      have HO : Hid (RR = (R, true)) := by show _ = _; rw [hRd.out, hok]; rfl
      clear hok hRd hT
      go_wp2_with (go_at_call 90; refine hV.out.mono ?_; rintro e w2 ⟨rfl, hb2⟩)
      go_ret2
      rw [HO.out]
      exact ⟨_, rfl, by show World.ownsRow _ _ _ _ _ R.length _; rw [HL.out]; exact own_below ho1 hb2, (by repeat' (first | exact Below.refl _ _ | (with_reducible assumption) | (with_reducible refine Below.alloc ?_ ?_ _) | (with_reducible refine Below.setCell ?_ ?_ _) | (with_reducible refine Below.drew ?_) | (with_reducible refine below_drewN ?_ _) | (refine Below.trans ?_ (Below.mono (by assumption) ?_)) | (with_reducible exact Nat.le_refl _) | (with_reducible assumption) | (exact Below.size (by assumption)) | omega | go_size | (simp at *; omega)))⟩
    | false =>
      rw [hok] at hV
      have hV := hid hV
      have HO : Hid (RR = ([], false)) := by show _ = _; rw [hRd.out, hok]; rfl
      clear hok hRd hT
      go_wp2_with (go_at_call 90; refine hV.out.mono ?_; rintro e w2 ⟨rfl, hb2⟩)
      go_ret2
      rw [HO.out]
      exact ⟨_, rfl, World.ownsRow_nil _ _ _ _, (by repeat' (first | exact Below.refl _ _ | (with_reducible assumption) | (with_reducible refine Below.alloc ?_ ?_ _) | (with_reducible refine Below.setCell ?_ ?_ _) | (with_reducible refine Below.drew ?_) | (with_reducible refine below_drewN ?_ _) | (refine Below.trans ?_ (Below.mono (by assumption) ?_)) | (with_reducible exact Nat.le_refl _) | (with_reducible assumption) | (exact Below.size (by assumption)) | omega | go_size | (simp at *; omega)))⟩
theorem rdDig_pat {p : List Int} (h : thOk p = true) : rdDig (patS p).data.toList = p := by
  have hb := (thOk_iff h).1
  unfold rdDig patS
  rw [strOfNums_data, List.map_map, List.map_map]
  have e : ∀ x ∈ p, (((fun b => rDig (UInt8.toNat b : Int)) ∘ fun n => UInt8.ofNat (Int.toNat n)) ∘ hexB) x = x := by
    intro x hx
    obtain ⟨x0, x1⟩ := hb x hx
    obtain ⟨y0, y1⟩ := hexB_bd x0 x1
    show rDig ((UInt8.ofNat (hexB x).toNat).toNat : Int) = x
    rw [UInt8.toNat_ofNat', Nat.mod_eq_of_lt (by omega), Int.toNat_of_nonneg y0]
    exact rDig_hexB x0 x1
  rw [List.map_congr_left e]
  simp
theorem readPat {p : List Int} (h : okP p = true) : rReadPattern (patS p) = (p, true) := by
  simp [rReadPattern, rdDig_pat (okP_th h), h]
end Go.Proofs.Ytkglkpohbckpcaa
