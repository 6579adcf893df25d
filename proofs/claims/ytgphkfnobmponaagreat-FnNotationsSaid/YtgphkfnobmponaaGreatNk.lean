/- The text: Nk. -/
import Derived.Test.YtgphkfnobmponaaGreatG18
/- Contracts of the specification's ValidMulti. -/
namespace Go.Proofs.YtgphkfnobmponaaGreat
open Go.RowKit
set_option linter.unusedVariables false

set_option maxHeartbeats 2000000 in
theorem l04Landings_at (g o : Nat) (A : Option Addr) (n c : Nat) (rows : List (List Int)) (w : World) (hp : msSh rows = true) (hx : Bo w g o #[.slice A n c]) (hr : RdG w w.heap.size A n rows) :
    Calls Tryz.prog 116 #[.pointer (some ⟨g, o, none⟩)] w fun e w' => ∃ B c', e = .returned (.slice B n c') ∧ w'.ownsRow w.heap.size 2 1 (.slice B n c') n (ints (rLand rows)) ∧ Below w.heap.size w w' := by
  have hlen := hr.len
  have hgl := hx.lt
  have HCG := hid (fun (w1 : World) (hb : Below w.heap.size w w1) => show w1.cell? ⟨g, o, none⟩ = some (.slice A n c) from (hx.below hb hgl).cell 0)
  have cg := HCG.out w (Below.refl _ _)
  obtain ⟨⟨h1, h12⟩, hst⟩ := msSh_iff.1 hp
  rw [hlen] at h1 h12
  have HR := hid hr
  have HST := hid hst
  have hCt := hid (Ct.start n)
  have hC0 : Hid (([] : List Nat) = mLnds n 0 (rows.take 0)) := rfl
  have hAll := hid (fun (xs : List Value) (h : Ct xs n (mLnds n 0 rows)) => h.all hlen)
  have HL := hid hlen
  have hcnt := hid (fun (k : Nat) (row : List Int) (hx : rows[k]? = some row) (j y : Nat) => show ((mLnds n 0 (rows.take k) ++ mLnd n k (row.take j)).count y : Int) + 1 ≤ 100 from by
    have a1 := Ct.bd (L := mLnds n 0 (rows.take k) ++ mLnd n k (row.take j)) (n := 0) (y := y)
    have a2 := mLnds_len n (rows.take k) 0 (fun r hr => (mstOk_iff.1 (hst r (List.mem_of_mem_take hr))).1.2)
    have a3 := mLnd_len n k (row.take j)
    have a4 := (mstOk_iff.1 (hst row (List.mem_of_getElem? hx))).1.2
    rw [List.length_append] at a1
    rw [List.length_take] at a2 a3
    omega)
  clear hr hlen hst hp hx
  go_enter Tryz.func116, Tryz.ntmps116
  go_wp2_with (at_make; refine make_own w.heap.size Tryz.underlying24 inf_int rfl rfl _ _ rfl .i64 .i64 n rfl rfl (by omega) (by omega) (Nat.le_refl _) ?_; intro w2 ho2 hb2 hz2)
  clear cg
  go_loopw [5] (fun i wr => Hid (∃ (k : Nat) (xs : List Value), i = .int .i64 k ∧ k ≤ n ∧ Hid (Ct xs n (mLnds n 0 (rows.take k))) ∧ wr.ownsRow w.heap.size 2 1 (.slice (some ⟨w.heap.size, 0, none⟩) n n) n xs ∧ Below w.heap.size w wr)) (fun i _ => n - (intOf i).toNat)
  case atStart => exact hid ⟨0, _, rfl, by omega, by rw [← hC0.out]; exact hCt, ho2, hb2⟩
  case round =>
    clear hCt hC0 ho2 hb2 hz2
    obtain ⟨k, xs, rfl, hk, hT, ho, hb0⟩ := hrel.out
    clear hrel
    by_cases hlt : k < n
    · obtain ⟨b, off, row, Ai, ci, rfl, hb, hx, hd, hc, hrow⟩ := HR.out.at_ hlt
      have HCR := hid (fun (w1 : World) (hb1 : Below w.heap.size w w1) => show w1.cell? ⟨b, off + k, none⟩ = some (.slice Ai row.length ci) from (hb1.cell (p := ⟨b, off + k, none⟩) hb).trans hc)
      have hst2 := HST.out row (List.mem_of_getElem? hx)
      have hl4 := (mstOk_iff.1 hst2).1.2
      have HX : Hid (mLnds n 0 (rows.take (k + 1)) = mLnds n 0 (rows.take k) ++ mLnd n k row) := mLnds_step hx
      have HT0 : Hid (Ct xs n (mLnds n 0 (rows.take k) ++ mLnd n k (row.take 0))) := by show Ct _ _ (_ ++ []); rw [List.append_nil]; exact hT.out
      have HC := hid (hcnt.out k row hx)
      have HS2 := hid (fun (x : Int) (hx : x ∈ row) => mstOk_bd hst2 hx)
      have HTE : Hid (row.take row.length = row) := List.take_of_length_le (Nat.le_refl _)
      have HROW := hid hrow
      generalize mLnds n 0 (rows.take k) = L0 at *
      clear hT hx hd hc hrow hst2 hcnt HST
      go_wp2
      go_loopw [6] (fun i wr => Hid (∃ (j : Nat) (xs : List Value), i = .int .i64 j ∧ j ≤ row.length ∧ Hid (Ct xs n (L0 ++ mLnd n k (row.take j))) ∧ wr.ownsRow w.heap.size 2 1 (.slice (some ⟨w.heap.size, 0, none⟩) n n) n xs ∧ Below w.heap.size w wr)) (fun i _ => row.length - (intOf i).toNat)
      case atStart => exact hid ⟨0, xs, rfl, by omega, HT0, ho, hb0⟩
      case round =>
        clear HT0 ho hb0 xs
        obtain ⟨j, xs, rfl, hj, hT, ho, hb0⟩ := hrel.out
        clear hrel
        have cg := HCG.out wr hb0
        have cr := HCR.out wr hb0
        have hbw : b < wr.heap.size := by have := hb0.size; omega
        by_cases hjl : j < row.length
        · obtain ⟨bb, offb, x, rfl, hbb, hxj, hdj, hcj⟩ := (HROW.out.below hb0 (Nat.le_refl _)).at_ hjl
          obtain ⟨x0, x15⟩ := HS2.out x (List.mem_of_getElem? hxj)
          have hbbw : bb < wr.heap.size := by have := hb0.size; omega
          have HS := hid (mLnd_step (n := n) (i := k) hxj)
          clear hxj hdj
          by_cases hx0 : 0 < x
          · obtain ⟨X, rfl⟩ := Int.eq_ofNat_of_zero_le x0
            obtain ⟨M, hM⟩ : ∃ M, (k + X) % n = M := ⟨_, rfl⟩
            have hMn : M < n := by rw [← hM]; exact Nat.mod_lt _ (by omega)
            have hmod : ((k : Int) + (X : Int)).tmod (n : Int) = (M : Int) := by
              rw [Int.tmod_eq_emod_of_nonneg (by omega), ← hM, Int.natCast_emod, Int.natCast_add]
            have ca := ho.cellAt M (by omega)
            rw [hT.out.2 M hMn] at ca
            have hcb := HC.out j M
            have hT2 := hid (hT.out.add (y := M) hMn rfl)
            have fa := ho.frozenAt M
            obtain ⟨ho5, _⟩ := ho.stored M (.int .i64 (((L0 ++ mLnd n k (row.take j)).count M : Int) + 1))
            have HT3 : Hid (Ct (xs.set M (.int .i64 (((L0 ++ mLnd n k (row.take j)).count M : Int) + 1))) n (L0 ++ mLnd n k (row.take (j + 1)))) := by
              rw [HS.out, if_pos hx0, Int.toNat_natCast, hM, ← List.append_assoc]; exact hT2
            have hc0 : (0 : Int) ≤ ((L0 ++ mLnd n k (row.take j)).count M : Int) := by omega
            generalize (((L0 ++ mLnd n k (row.take j)).count M : Nat) : Int) = C at *
            have HO5 := hid ho5
            clear hT hT2 hM HS ho5 ho
            go_wp2
            go_roundw
            case rel => exact hid ⟨j + 1, _, by go_num, by omega, HT3, HO5.out, (by repeat' (first | exact Below.refl _ _ | (with_reducible first | assumption | exact Nat.le_refl _ | refine Below.alloc ?_ ?_ _ | refine Below.setCell ?_ ?_ _ | refine Below.drew ?_ | refine below_drewN ?_ _) | refine Below.trans ?_ (Below.mono (by assumption) ?_) | exact Below.size (by assumption) | omega | go_size | (simp at *; omega)))⟩
            case measure => simp [intOf]; omega
          · have HT3 : Hid (Ct xs n (L0 ++ mLnd n k (row.take (j + 1)))) := by rw [HS.out, if_neg hx0, List.append_nil]; exact hT
            clear hT HS
            go_wp2
            go_roundw
            case rel => exact hid ⟨j + 1, _, by go_num, by omega, HT3, ho, hb0⟩
            case measure => simp [intOf]; omega
        · have HT3 : Hid (Ct xs n (mLnds n 0 (rows.take (k + 1)))) := by rw [HX.out]; have := hT.out; rw [show j = row.length by omega, HTE.out] at this; exact this
          clear hT
          go_wp2
          go_roundw
          case rel => exact hid ⟨k + 1, xs, by go_num, by omega, HT3, ho, hb0⟩
          case measure => simp [intOf]; omega
    · have HZ := hAll.out xs (by have := hT.out; rw [List.take_of_length_le (by rw [HL.out]; omega)] at this; exact this)
      subst HZ
      clear hT
      go_wp2
      go_ret
      exact ⟨_, _, rfl, ho, hb0⟩
theorem l04Thrown_any (A : Option Addr) (n c : Nat) (row : List Int) (w : World) (hp : mstOk row = true) (hr : Rd w w.heap.size 1 A n (ints row)) :
    Calls Tryz.prog 117 #[.slice A n c] w fun e w' => e = .returned (.int .i64 (thr row)) ∧ w = w' := by
  have hlen := hr.len
  have h1 := (mstOk_iff.1 hp).1
  rw [hlen] at h1
  obtain ⟨b, off, x, rfl, hb, hx, hd, hc⟩ := hr.at_ (show 0 < n by omega)
  rw [Nat.add_zero] at hc
  by_cases hn1 : n = 1
  · subst hn1
    by_cases h0 : x = 0
    · subst h0
      have HZ := hid (thr_zero hp hx)
      clear hr hx hd hp hlen h1
      go_enter Tryz.func117, Tryz.ntmps117
      go_wp2
      go_ret
      exact ⟨ret_int HZ.out.symm, rfl⟩
    · have HZ : Hid (thr row = (1 : Int)) := by show _ = _; rw [thr_pos hx h0, hlen]; rfl
      have hq : (x == 0) = false := by simpa using h0
      clear hr hx hd hp hlen h0 h1
      go_enter Tryz.func117, Tryz.ntmps117
      go_wp2
      go_ret
      exact ⟨ret_int HZ.out.symm, rfl⟩
  · have HZ : Hid (thr row = (n : Int)) := by show _ = _; rw [thr_len (by omega), hlen]
    have hq : ((n : Int) == 1) = false := by simp; omega
    clear hr hx hd hp hlen
    go_enter Tryz.func117, Tryz.ntmps117
    go_wp2
    go_ret
    exact ⟨ret_int HZ.out.symm, rfl⟩
set_option maxHeartbeats 2000000 in
theorem l04Ok_at (g o : Nat) (A : Option Addr) (n c : Nat) (rows : List (List Int)) (w : World) (hn : n ≤ 1099511627776) (hl : ∀ r ∈ rows, r.length ≤ 1099511627776) (hx : Bo w g o #[.slice A n c]) (hr : RdG w w.heap.size A n rows) :
    Calls Tryz.prog 85 #[.pointer (some ⟨g, o, none⟩)] w fun e w' => e = .returned (.bool (mOk rows)) ∧ Below w.heap.size w w' := by
  have hlen := hr.len
  have hgl := hx.lt
  have hC := l04Shape_at g o A n c rows w hn hl hx hr
  cases hp : msSh rows with
  | false =>
    rw [hp] at hC
    have hC := hid hC
    have HZ := hid (mOk_sh hp)
    clear hr hp hlen hx hl
    go_enter Tryz.func85, Tryz.ntmps85
    go_wp2_with fail
    refine hC.out.mono ?_
    rintro e w1 ⟨rfl, hb1⟩
    go_wp2
    go_ret
    exact ⟨ret_bool HZ.out.symm, hb1⟩
  | true =>
    rw [hp] at hC
    have hC := hid hC
    have hD := hid (fun (w1 : World) (hb : Below w.heap.size w w1) => l04Landings_at g o A n c rows w1 hp (hx.below hb hgl) ((hr.below hb (Nat.le_refl _)).more hb.size))
    have HCG := hid (fun (w1 : World) (hb : Below w.heap.size w w1) => show w1.cell? ⟨g, o, none⟩ = some (.slice A n c) from (hx.below hb hgl).cell 0)
    obtain ⟨⟨h1, h12⟩, hst⟩ := msSh_iff.1 hp
    rw [hlen] at h1 h12
    have HST := hid hst
    have HR := hid hr
    have hAt := hid (fun (i : Nat) (hi : i < n) => show (ints (rLand rows))[i]? = some (.int .i64 ((mLnds n 0 rows).count i : Int)) from by rw [ints, List.getElem?_map, rLand_at (by omega), hlen]; rfl)
    have hMl := hid (fun (i : Nat) (row : List Int) (hi : rows[i]? = some row) => show mLn rows i = (((mLnds n 0 rows).count i : Int) == thr row) from by rw [mLn_at hi, hlen])
    have hBad := hid (fun (i : Nat) (hi : i < n) (h : mLn rows i = false) => mOk_bad (by omega) h)
    have hGood := hid (fun (h : ∀ i, i < n → mLn rows i = true) => mOk_iff.2 ⟨hp, fun i hi => h i (by omega)⟩)
    have hcnt := hid (fun (i : Nat) => show ((mLnds n 0 rows).count i : Int) ≤ 100 from by
      have a1 := Ct.bd (L := mLnds n 0 rows) (n := 0) (y := i)
      have a2 := mLnds_len n rows 0 (fun r hr => (mstOk_iff.1 (hst r hr)).1.2)
      omega)
    clear hr hp hlen hx hl hst
    go_enter Tryz.func85, Tryz.ntmps85
    go_wp2_with fail
    refine hC.out.mono ?_
    rintro e w1 ⟨rfl, hb1⟩
    clear hC
    go_wp2_with fail
    refine (hD.out w1 hb1).mono ?_
    rintro e w2 ⟨B, c1, rfl, ho2, hb2⟩
    clear hD
    have hB2 : Below w.heap.size w w2 := hb1.trans (hb2.mono hb1.size)
    have hRo := Rd.of_own ho2
    have HRo := hid hRo
    have cg := HCG.out w2 hB2
    clear ho2 hb2 hRo hb1
    go_wp2
    go_loopw [4] (fun i wr => Hid (∃ k : Nat, i = .int .i64 k ∧ k ≤ n ∧ Hid (∀ j, j < k → mLn rows j = true) ∧ Below w2.heap.size w2 wr)) (fun i _ => n - (intOf i).toNat)
    case atStart => exact hid ⟨0, rfl, by omega, hid (fun j h => absurd h (by omega)), Below.refl _ _⟩
    case round =>
      clear cg
      obtain ⟨k, rfl, hk, he, hbr⟩ := hrel.out
      clear hrel
      have hB3 : Below w.heap.size w wr := hB2.trans (hbr.mono hB2.size)
      have cg := HCG.out wr hB3
      by_cases hlt : k < n
      · obtain ⟨b, off, row, Ai, ci, rfl, hb, hx, hd, hc, hrow⟩ := (HR.out.below hB3 (Nat.le_refl _)).at_ hlt
        obtain ⟨b', off', rfl, hb', hc'⟩ := (HRo.out.below hbr (Nat.le_refl _)).2 (by omega)
        have hck := hc' k _ (hAt.out k hlt)
        have hrw : Rd wr wr.heap.size 1 Ai row.length (ints row) := hrow.more hB3.size
        have hT := hid (fun (m : Nat) => l04Thrown_any Ai row.length ci row (wr.drewN m) (HST.out row (List.mem_of_getElem? hx)) (show Rd (wr.drewN m) (wr.drewN m).heap.size 1 Ai row.length (ints row) from hrw))
        clear hrw
        have HM := hid (hMl.out k row hx)
        have hcn := hcnt.out k
        have hbw : b < wr.heap.size := by have := hB3.size; omega
        have hbw' : b' < wr.heap.size := by have := hbr.size; omega
        generalize (((mLnds n 0 rows).count k : Nat) : Int) = C at *
        generalize thr row = T at *
        by_cases hCT : C = T
        · have HZ := hid (fun (j : Nat) (hj : j < k + 1) => show mLn rows j = true from by
            rcases Nat.lt_or_eq_of_le (Nat.le_of_lt_succ hj) with h1 | h1
            · exact he.out j h1
            · subst h1; rw [HM.out, hCT]; simp)
          subst hCT
          clear he HM hx hd hrow hc' hAt hMl hBad hcn
          go_wp2
          go_quiet ((go_at_call 117; exact quiet_same (hT.out _)))
          go_wp2
          go_roundw
          case rel => exact hid ⟨k + 1, by go_num, by omega, HZ, (by repeat' (first | exact Below.refl _ _ | (with_reducible first | assumption | exact Nat.le_refl _ | refine Below.alloc ?_ ?_ _ | refine Below.setCell ?_ ?_ _ | refine Below.drew ?_ | refine below_drewN ?_ _) | refine Below.trans ?_ (Below.mono (by assumption) ?_) | exact Below.size (by assumption) | omega | go_size | (simp at *; omega)))⟩
          case measure => simp [intOf]; omega
        · have hq : (C == T) = false := by simpa using hCT
          have HZ := hid (hBad.out k hlt (by rw [HM.out]; exact hq))
          clear he HM hx hd hrow hc' hAt hMl hBad hcn hCT
          go_wp2
          go_quiet ((go_at_call 117; exact quiet_same (hT.out _)))
          go_wp2
          go_ret
          exact ⟨ret_bool HZ.out.symm, (by repeat' (first | exact Below.refl _ _ | (with_reducible first | assumption | exact Nat.le_refl _ | refine Below.alloc ?_ ?_ _ | refine Below.setCell ?_ ?_ _ | refine Below.drew ?_ | refine below_drewN ?_ _) | refine Below.trans ?_ (Below.mono (by assumption) ?_) | exact Below.size (by assumption) | omega | go_size | (simp at *; omega)))⟩
      · have HZ := hid (hGood.out (fun j hj => he.out j (by omega)))
        clear he
        go_wp2
        go_ret
        exact ⟨ret_bool HZ.out.symm, hB3⟩
theorem l04Ok_any (g : Nat) (A : Option Addr) (n c : Nat) (rows : List (List Int)) (w : World) (hn : n ≤ 1099511627776) (hl : ∀ r ∈ rows, r.length ≤ 1099511627776) (hx : Bx w g 27 #[.slice A n c]) (hr : RdG w w.heap.size A n rows) :
    Calls Tryz.prog 85 #[.pointer (some ⟨g, 0, none⟩)] w fun e w' => e = .returned (.bool (mOk rows)) ∧ Below w.heap.size w w' := l04Ok_at g 0 A n c rows w hn hl hx.bo hr
end Go.Proofs.YtgphkfnobmponaaGreat
