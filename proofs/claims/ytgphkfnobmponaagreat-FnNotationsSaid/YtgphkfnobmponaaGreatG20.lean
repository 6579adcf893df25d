/- Several texts in one: Qb, Nm. -/
import Derived.Test.YtgphkfnobmponaaGreatG17
import Derived.Test.YtgphkfnobmponaaGreatG08
import Derived.Test.YtgphkfnobmponaaGreatG06
import Derived.Test.YtgphkfnobmponaaGreatQs
/- Contracts of the functions that check passing patterns: validity. -/
namespace Go.Proofs.YtgphkfnobmponaaGreat
open Go.RowKit
set_option linter.unusedVariables false

/-- Sixteen marks: those of a list's numbers are set. -/
def Tk (cs : Array Value) (L : List Nat) : Prop := cs.size = 16 ∧ ∀ x, x < 16 → cs[x]? = some (.bool (decide (x ∈ L)))
theorem Tk.start : Tk #[.bool false, .bool false, .bool false, .bool false, .bool false, .bool false, .bool false, .bool false, .bool false, .bool false, .bool false, .bool false, .bool false, .bool false, .bool false, .bool false] [] := by
  refine ⟨rfl, fun x hx => ?_⟩
  have h : x = 0 ∨ x = 1 ∨ x = 2 ∨ x = 3 ∨ x = 4 ∨ x = 5 ∨ x = 6 ∨ x = 7 ∨ x = 8 ∨ x = 9 ∨ x = 10 ∨ x = 11 ∨ x = 12 ∨ x = 13 ∨ x = 14 ∨ x = 15 := by omega
  rcases h with rfl | rfl | rfl | rfl | rfl | rfl | rfl | rfl | rfl | rfl | rfl | rfl | rfl | rfl | rfl | rfl <;> rfl
theorem Tk.add {cs : Array Value} {L : List Nat} {y : Nat} (h : Tk cs L) (hy : y < 16) : Tk (cs.setIfInBounds y (.bool true)) (L ++ [y]) := by
  refine ⟨by rw [Array.size_setIfInBounds]; exact h.1, fun x hx => ?_⟩
  rw [Array.getElem?_setIfInBounds]
  by_cases hxy : y = x
  · subst hxy
    rw [if_pos rfl, if_pos (by rw [h.1]; exact hx)]
    simp
  · rw [if_neg hxy, h.2 x hx]
    have : (x ∈ L ++ [y]) ↔ x ∈ L := by rw [List.mem_append, List.mem_singleton]; exact ⟨fun h => h.resolve_right (fun e => hxy e.symm), .inl⟩
    simp only [this]
theorem psAll_len {a b : List PT} (h : a.length = b.length) : (psAll (a, b)).length = 2 * a.length := by
  unfold psAll
  rw [List.length_append, psLs_len, psLs_len]; simp only; omega
theorem psL_jz {n J i : Nat} {x1 : Int} {x2 jz : Bool} (hJ : J < 2) (hj : ((J : Int) == 0) = jz) : psL n J i (x1, x2) = (i + x1.toNat) % n * 2 + (if x2 == jz then 1 else 0) := by
  have : J = 0 ∨ J = 1 := by omega
  unfold psL
  rcases this with rfl | rfl
  · have : jz = true := by rw [← hj]; rfl
    subst this; cases x2 <;> rfl
  · have : jz = false := by rw [← hj]; rfl
    subst this; cases x2 <;> rfl
/-- The juggler's throws in the row of both. -/
theorem psAll_at {a b l : List PT} {n J i : Nat} {x : PT} (ha : a.length = n) (hJ : J < 2) (hl : l = if J = 0 then a else b) (hx : l[i]? = some x) : (psAll (a, b))[J * n + i]? = some (psL n J i x) := by
  have : J = 0 ∨ J = 1 := by omega
  unfold psAll
  rcases this with rfl | rfl
  · rw [if_pos rfl] at hl
    subst hl
    have := (List.getElem?_eq_some_iff.1 hx).1
    rw [List.getElem?_append_left (by rw [psLs_len, Nat.zero_mul, Nat.zero_add]; exact this), Nat.zero_mul, Nat.zero_add, psLs_at hx]
    simp only [ha]
  · rw [if_neg (by omega)] at hl
    subst hl
    rw [List.getElem?_append_right (by rw [psLs_len]; simp only; omega), psLs_len]
    simp only
    rw [show 1 * n + i - a.length = i by omega, psLs_at hx, ha]
set_option maxHeartbeats 1000000 in
theorem ValidPassing_any (A B : Option Addr) (n c m d : Nat) (p : Psg) (w : World) (hn : n ≤ 1099511627776) (hm : m ≤ 1099511627776) (hr : Rd w w.heap.size 2 A n (ths p.1)) (hs : Rd w w.heap.size 2 B m (ths p.2)) :
    Calls Tryz.prog 61 #[.agg #[.slice A n c, .slice B m d]] w fun e w' => e = .returned (.bool (psOk p)) ∧ Below w.heap.size w w' := by
  have hbx : Below w.heap.size w (w.alloc (Obj.cells #[.slice A n c, .slice B m d] 31)) := (by repeat' (first | exact Below.refl _ _ | (with_reducible first | assumption | exact Nat.le_refl _ | refine Below.alloc ?_ ?_ _ | refine Below.setCell ?_ ?_ _ | refine Below.drew ?_ | refine below_drewN ?_ _) | refine Below.trans ?_ (Below.mono (by assumption) ?_) | exact Below.size (by assumption) | omega | go_size | (simp at *; omega)))
  have hC := isPassingForm_any A B n c m d p _ hn hm ((hr.below hbx (Nat.le_refl _)).more hbx.size) ((hs.below hbx (Nat.le_refl _)).more hbx.size)
  have hX := Bx.new w 31 #[.slice A n c, .slice B m d]
  have hXl := hX.lt
  cases hp : psSh p with
  | false =>
    have HZ : Hid (psOk p = false) := by show _ = _; rw [psOk, hp]; rfl
    rw [hp] at hC
    have hC := hid hC
    clear hr hs hp hX
    go_enter Tryz.func61, Tryz.ntmps61
    go_wp2_with fail
    refine hC.out.mono ?_
    rintro e w1 ⟨rfl, hb1⟩
    go_wp2
    go_ret
    exact ⟨ret_bool HZ.out.symm, (by repeat' (first | exact Below.refl _ _ | (with_reducible first | assumption | exact Nat.le_refl _ | refine Below.alloc ?_ ?_ _ | refine Below.setCell ?_ ?_ _ | refine Below.drew ?_ | refine below_drewN ?_ _) | refine Below.trans ?_ (Below.mono (by assumption) ?_) | exact Below.size (by assumption) | omega | go_size | (simp at *; omega)))⟩
  | true =>
    rw [hp] at hC
    have hC := hid hC
    obtain ⟨a, b⟩ := p
    obtain ⟨⟨h1, h8⟩, he, hoa, hob⟩ := psSh_iff.1 hp
    have l1 := hr.th_len
    have l2 := hs.th_len
    simp only at l1 l2 h1 h8 he hoa hob
    obtain rfl : n = m := by omega
    rw [l1] at h1 h8
    have hp0 := hp
    clear hp
    go_enter Tryz.func61, Tryz.ntmps61
    go_wp2_with fail
    refine hC.out.mono ?_
    rintro e w1 ⟨rfl, hb1⟩
    have hX1 := hX.below hb1 hXl
    have c0 := hX1.cell 0
    have c1 := hX1.cell 1
    have z1 := hb1.size
    have zz : w.heap.size < w1.heap.size := by simp at z1; omega
    replace c0 : w1.cell? ⟨w.heap.size, 0, none⟩ = some (.slice A n c) := c0
    replace c1 : w1.cell? ⟨w.heap.size, 1, none⟩ = some (.slice B n d) := c1
    have hB1 : Below w.heap.size w w1 := (by repeat' (first | exact Below.refl _ _ | (with_reducible first | assumption | exact Nat.le_refl _ | refine Below.alloc ?_ ?_ _ | refine Below.setCell ?_ ?_ _ | refine Below.drew ?_ | refine below_drewN ?_ _) | refine Below.trans ?_ (Below.mono (by assumption) ?_) | exact Below.size (by assumption) | omega | go_size | (simp at *; omega)))
    have HR := hid hr
    have HS := hid hs
    clear hC hX hX1 hr hs hb1
    obtain ⟨L, hL⟩ : ∃ L, psAll (a, b) = L := ⟨_, rfl⟩
    have hLl : L.length = 2 * n := by rw [← hL, psAll_len he, l1]
    have hLat := hid (fun (J i : Nat) (l : List PT) (x : PT) (hJ : J < 2) (hl : l = if J = 0 then a else b) (hx : l[i]? = some x) => by have := psAll_at (b := b) l1 hJ hl hx; rw [hL] at this; exact this)
    have hOk : Hid (psOk (a, b) = decide L.Nodup) := by show _ = _; rw [psOk, hp0, hL]; rfl
    have HLL := hid hLl
    have hpt := hid (fun (J : Nat) (l : List PT) (x : PT) (i : Nat) (hl : l = if J = 0 then a else b) (hx : l[i]? = some x) => show ptOk x = true by
      have hm := List.mem_of_getElem? hx
      split at hl <;> subst hl
      · exact ptsOk_iff.1 hoa x hm
      · exact ptsOk_iff.1 hob x hm)
    clear hL hLl he l1 l2 hoa hob hp0 hbx hXl
    have hTk := hid Tk.start
    have hTN : Hid (([] : List Nat) = L.take (0 * n)) := by show _ = _; rw [Nat.zero_mul, List.take_zero]
    have g1 : w.heap.size < w1.heap.size := zz
    go_wp2
    go_loopw [23] (fun i wr => Hid (∃ (J : Nat) (cs : Array Value), i = .int .i64 J ∧ J ≤ 2 ∧ Hid (Tk cs (L.take (J * n))) ∧ Hid ((L.take (J * n)).Nodup) ∧ Bx wr w1.heap.size 125 cs ∧ Bx wr (w1.heap.size + 1) 29 #[.slice A n c, .slice B n d] ∧ Below w.heap.size w wr)) (fun i _ => 2 - (intOf i).toNat)
    case atStart => exact hid ⟨0, _, rfl, by omega, by rw [← hTN.out]; exact hTk, by rw [← hTN.out]; exact hid List.nodup_nil, (Bx.new _ _ _).alloc _, by have := Bx.new (w1.alloc (Obj.cells #[.bool false, .bool false, .bool false, .bool false, .bool false, .bool false, .bool false, .bool false, .bool false, .bool false, .bool false, .bool false, .bool false, .bool false, .bool false, .bool false] 125)) 29 #[.slice A n c, .slice B n d]; simpa using this, (by repeat' (first | exact Below.refl _ _ | (with_reducible first | assumption | exact Nat.le_refl _ | refine Below.alloc ?_ ?_ _ | refine Below.setCell ?_ ?_ _ | refine Below.drew ?_ | refine below_drewN ?_ _) | refine Below.trans ?_ (Below.mono (by assumption) ?_) | exact Below.size (by assumption) | omega | go_size | (simp at *; omega)))⟩
    case round =>
      obtain ⟨J, cs, rfl, hJ, hT, hN, hX, hS, hb0⟩ := hrel.out
      clear hrel hTk hTN
      have hXl := hX.lt
      have hSl := hS.lt
      by_cases hJ2 : J < 2
      · obtain ⟨l, hl⟩ : ∃ l, l = if J = 0 then a else b := ⟨_, rfl⟩
        obtain ⟨S, e, hcS, hRS⟩ : ∃ S e, wr.cell? ⟨w1.heap.size + 1, J, none⟩ = some (.slice S n e) ∧ Rd w w.heap.size 2 S n (ths l) := by
          have : J = 0 ∨ J = 1 := by omega
          rcases this with rfl | rfl
          · rw [hS.cell]; exact ⟨A, c, rfl, by rw [hl, if_pos rfl]; exact HR.out⟩
          · rw [hS.cell]; exact ⟨B, d, rfl, by rw [hl, if_neg (by omega)]; exact HS.out⟩
        obtain ⟨jz, hjz⟩ : ∃ jz, ((J : Int) == 0) = jz := ⟨_, rfl⟩
        have hAt := hid (fun (i : Nat) (x : PT) (hx : l[i]? = some x) => hLat.out J i l x hJ2 hl hx)
        have hPt := hid (fun (i : Nat) (x : PT) (hx : l[i]? = some x) => hpt.out J l x i hl hx)
        have hPL := hid (fun (i : Nat) (x1 : Int) (x2 : Bool) => psL_jz (n := n) (i := i) (x1 := x1) (x2 := x2) hJ2 hjz)
        have HRS := hid hRS
        have hT0 : Hid (Tk cs (L.take (J * n + 0))) := hT
        have hN0 : Hid ((L.take (J * n + 0)).Nodup) := hN
        clear hl hRS hT hN HR HS hLat hpt
        go_wp2
        go_loopw [30] (fun i wr => Hid (∃ (k : Nat) (cs : Array Value), i = .int .i64 k ∧ k ≤ n ∧ Hid (Tk cs (L.take (J * n + k))) ∧ Hid ((L.take (J * n + k)).Nodup) ∧ Bx wr w1.heap.size 125 cs ∧ Bx wr (w1.heap.size + 1) 29 #[.slice A n c, .slice B n d] ∧ Below w.heap.size w wr)) (fun i _ => n - (intOf i).toNat)
        case atStart => exact hid ⟨0, cs, rfl, by omega, hT0, hN0, hX, hS, hb0⟩
        case round =>
          clear hT0 hN0 hX hS hb0 hcS hXl hSl cs
          obtain ⟨k, cs, rfl, hk, hT, hN, hX, hS, hb0⟩ := hrel.out
          clear hrel
          have hXl := hX.lt
          have hSl := hS.lt
          by_cases hlt : k < n
          · obtain ⟨bb, off, x, rfl, hbb, hx, hd, x0c, x1c⟩ := (HRS.out.below hb0 (Nat.le_refl _)).th_at hlt
            obtain ⟨x1, x2⟩ := x
            have hAtk := hAt.out k _ hx
            obtain ⟨⟨v0, v15⟩, _⟩ := ptOk_iff.1 (hPt.out k _ hx)
            rw [hPL.out] at hAtk
            simp only at v0 v15 hAtk x0c x1c
            obtain ⟨V, rfl⟩ := Int.eq_ofNat_of_zero_le v0
            rw [Int.toNat_natCast] at hAtk
            obtain ⟨M, hM⟩ : ∃ M, (k + V) % n = M := ⟨_, rfl⟩
            have hMn : M < n := by rw [← hM]; exact Nat.mod_lt _ (by omega)
            have hmod : ((k : Int) + (V : Int)).tmod (n : Int) = (M : Int) := by
              rw [Int.tmod_eq_emod_of_nonneg (by omega), ← hM, Int.natCast_emod, Int.natCast_add]
            rw [hM] at hAtk
            obtain ⟨q, hq⟩ : ∃ q, (x2 == jz) = q := ⟨_, rfl⟩
            rw [hq] at hAtk
            have hbw : bb < wr.heap.size := by have := hb0.size; omega
            have HAT := hid hAtk
            clear hAtk hx hd hM hbb
            cases q
            · have HA2 : Hid (L[J * n + k]? = some (M * 2)) := HAT.out
              obtain ⟨tk, htk⟩ : ∃ tk, decide (M * 2 ∈ L.take (J * n + k)) = tk := ⟨_, rfl⟩
              have hcell := hX.cell (M * 2)
              rw [hT.out.2 (M * 2) (by omega), htk] at hcell
              cases tk
              · have HT : Hid (Tk (cs.setIfInBounds (M * 2) (.bool true)) (L.take (J * n + (k + 1)))) := by
                  rw [show J * n + (k + 1) = J * n + k + 1 by omega, take_snoc HA2.out]
                  exact hT.out.add (by omega)
                have HN : Hid ((L.take (J * n + (k + 1))).Nodup) := by
                  show List.Nodup _
                  rw [show J * n + (k + 1) = J * n + k + 1 by omega, take_snoc HA2.out]
                  exact (nodup_snoc hN.out).2 (of_decide_eq_false htk)
                have HX := hid hX
                have HSS := hid hS
                have hfz := hX.frozen (M * 2)
                clear hT hN htk hX hS HAT HA2
                go_wp2
                go_roundw
                case rel => exact hid ⟨k + 1, _, by go_num, by omega, HT, HN, (HX.out.set_ _ _).alloc _, (HSS.out.far (p := ⟨w1.heap.size, M * 2, none⟩) (by simp) _).alloc _, (by repeat' (first | exact Below.refl _ _ | (with_reducible first | assumption | exact Nat.le_refl _ | refine Below.alloc ?_ ?_ _ | refine Below.setCell ?_ ?_ _ | refine Below.drew ?_ | refine below_drewN ?_ _) | refine Below.trans ?_ (Below.mono (by assumption) ?_) | exact Below.size (by assumption) | omega | go_size | (simp at *; omega)))⟩
                case measure => simp [intOf]; omega
              · have HZ : Hid (psOk (a, b) = false) := by
                  show _ = _
                  rw [hOk.out]
                  refine decide_eq_false fun h => ?_
                  have h2 := nodup_take h (J * n + k + 1)
                  rw [take_snoc HA2.out] at h2
                  exact ((nodup_snoc hN.out).1 h2) (of_decide_eq_true htk)
                clear hT hN htk hX hS HAT HA2
                go_wp2
                go_ret
                exact ⟨ret_bool HZ.out.symm, (by repeat' (first | exact Below.refl _ _ | (with_reducible first | assumption | exact Nat.le_refl _ | refine Below.alloc ?_ ?_ _ | refine Below.setCell ?_ ?_ _ | refine Below.drew ?_ | refine below_drewN ?_ _) | refine Below.trans ?_ (Below.mono (by assumption) ?_) | exact Below.size (by assumption) | omega | go_size | (simp at *; omega)))⟩
            · have HA2 : Hid (L[J * n + k]? = some (M * 2 + 1)) := HAT.out
              obtain ⟨tk, htk⟩ : ∃ tk, decide (M * 2 + 1 ∈ L.take (J * n + k)) = tk := ⟨_, rfl⟩
              have hcell := hX.cell (M * 2 + 1)
              rw [hT.out.2 (M * 2 + 1) (by omega), htk] at hcell
              cases tk
              · have HT : Hid (Tk (cs.setIfInBounds (M * 2 + 1) (.bool true)) (L.take (J * n + (k + 1)))) := by
                  rw [show J * n + (k + 1) = J * n + k + 1 by omega, take_snoc HA2.out]
                  exact hT.out.add (by omega)
                have HN : Hid ((L.take (J * n + (k + 1))).Nodup) := by
                  show List.Nodup _
                  rw [show J * n + (k + 1) = J * n + k + 1 by omega, take_snoc HA2.out]
                  exact (nodup_snoc hN.out).2 (of_decide_eq_false htk)
                have HX := hid hX
                have HSS := hid hS
                have hfz := hX.frozen (M * 2 + 1)
                clear hT hN htk hX hS HAT HA2
                go_wp2
                go_roundw
                case rel => exact hid ⟨k + 1, _, by go_num, by omega, HT, HN, (HX.out.set_ _ _).alloc _, (HSS.out.far (p := ⟨w1.heap.size, M * 2 + 1, none⟩) (by simp) _).alloc _, (by repeat' (first | exact Below.refl _ _ | (with_reducible first | assumption | exact Nat.le_refl _ | refine Below.alloc ?_ ?_ _ | refine Below.setCell ?_ ?_ _ | refine Below.drew ?_ | refine below_drewN ?_ _) | refine Below.trans ?_ (Below.mono (by assumption) ?_) | exact Below.size (by assumption) | omega | go_size | (simp at *; omega)))⟩
                case measure => simp [intOf]; omega
              · have HZ : Hid (psOk (a, b) = false) := by
                  show _ = _
                  rw [hOk.out]
                  refine decide_eq_false fun h => ?_
                  have h2 := nodup_take h (J * n + k + 1)
                  rw [take_snoc HA2.out] at h2
                  exact ((nodup_snoc hN.out).1 h2) (of_decide_eq_true htk)
                clear hT hN htk hX hS HAT HA2
                go_wp2
                go_ret
                exact ⟨ret_bool HZ.out.symm, (by repeat' (first | exact Below.refl _ _ | (with_reducible first | assumption | exact Nat.le_refl _ | refine Below.alloc ?_ ?_ _ | refine Below.setCell ?_ ?_ _ | refine Below.drew ?_ | refine below_drewN ?_ _) | refine Below.trans ?_ (Below.mono (by assumption) ?_) | exact Below.size (by assumption) | omega | go_size | (simp at *; omega)))⟩
          · have hkn : k = n := by omega
            have HT : Hid (Tk cs (L.take ((J + 1) * n))) := by rw [show (J + 1) * n = J * n + n by rw [Nat.add_mul, Nat.one_mul], ← hkn]; rw [hkn]; rw [hkn] at hT; exact hT
            have HN : Hid ((L.take ((J + 1) * n)).Nodup) := by rw [show (J + 1) * n = J * n + n by rw [Nat.add_mul, Nat.one_mul]]; rw [hkn] at hN; exact hN
            clear hkn hT hN
            go_wp2
            go_roundw
            case rel => exact hid ⟨J + 1, cs, by go_num, by omega, HT, HN, hX, hS, hb0⟩
            case measure => simp [intOf]; omega
      · have HZ : Hid (psOk (a, b) = true) := by
          show _ = _
          rw [hOk.out]
          have h := hN.out
          rw [show J = 2 by omega, List.take_of_length_le (by rw [HLL.out]; omega)] at h
          exact decide_eq_true h
        clear hT hN
        go_wp2
        go_ret
        exact ⟨ret_bool HZ.out.symm, (by repeat' (first | exact Below.refl _ _ | (with_reducible first | assumption | exact Nat.le_refl _ | refine Below.alloc ?_ ?_ _ | refine Below.setCell ?_ ?_ _ | refine Below.drew ?_ | refine below_drewN ?_ _) | refine Below.trans ?_ (Below.mono (by assumption) ?_) | exact Below.size (by assumption) | omega | go_size | (simp at *; omega)))⟩
theorem l06Land_any (v j i n : Int) (x : Bool) (w : World) (v0 : 0 ≤ v) (v1 : v ≤ 15) (j0 : 0 ≤ j) (j1 : j ≤ 1) (i0 : 0 ≤ i) (i1 : i ≤ 8) (n0 : 1 ≤ n) (n1 : n ≤ 8) :
    Calls Tryz.prog 120 #[.agg #[.int .i64 v, .bool x], .int .i64 j, .int .i64 i, .int .i64 n] w fun e w' => e = .returned (.int .i64 ((psL n.toNat j.toNat i.toNat (v, x) : Nat) : Int)) ∧ Below w.heap.size w w' := by
  obtain ⟨V, rfl⟩ := Int.eq_ofNat_of_zero_le v0
  obtain ⟨J, rfl⟩ := Int.eq_ofNat_of_zero_le j0
  obtain ⟨I, rfl⟩ := Int.eq_ofNat_of_zero_le i0
  obtain ⟨N, rfl⟩ := Int.eq_ofNat_of_zero_le (show 0 ≤ n by omega)
  obtain ⟨M, hM⟩ : ∃ M, (I + V) % N = M := ⟨_, rfl⟩
  have hMn : M < N := by rw [← hM]; exact Nat.mod_lt _ (by omega)
  have hmod : ((I : Int) + (V : Int)).tmod (N : Int) = (M : Int) := by
    rw [Int.tmod_eq_emod_of_nonneg (by omega), ← hM, Int.natCast_emod, Int.natCast_add]
  cases x
  · have hr : Hid (psL (N : Int).toNat (J : Int).toNat (I : Int).toNat ((V : Int), false) = M * 2 + J) := by show _ = _; simp only [Int.toNat_natCast, psL]; rw [hM]; rfl
    clear hM
    go_enter Tryz.func120, Tryz.ntmps120
    go_wp2
    go_ret
    exact ⟨ret_int (by rw [hr.out]; omega), (by repeat' (first | exact Below.refl _ _ | (with_reducible first | assumption | exact Nat.le_refl _ | refine Below.alloc ?_ ?_ _ | refine Below.setCell ?_ ?_ _ | refine Below.drew ?_ | refine below_drewN ?_ _) | refine Below.trans ?_ (Below.mono (by assumption) ?_) | exact Below.size (by assumption) | omega | go_size | (simp at *; omega)))⟩
  · have hr : Hid (psL (N : Int).toNat (J : Int).toNat (I : Int).toNat ((V : Int), true) = M * 2 + (1 - J)) := by show _ = _; simp only [Int.toNat_natCast, psL]; rw [hM]; rfl
    clear hM
    go_enter Tryz.func120, Tryz.ntmps120
    go_wp2
    go_ret
    exact ⟨ret_int (by rw [hr.out]; omega), (by repeat' (first | exact Below.refl _ _ | (with_reducible first | assumption | exact Nat.le_refl _ | refine Below.alloc ?_ ?_ _ | refine Below.setCell ?_ ?_ _ | refine Below.drew ?_ | refine below_drewN ?_ _) | refine Below.trans ?_ (Below.mono (by assumption) ?_) | exact Below.size (by assumption) | omega | go_size | (simp at *; omega)))⟩
/-- Marks in a row: those of a list's numbers are set. -/
def TkL (xs : List Value) (N : Nat) (L : List Nat) : Prop := xs.length = N ∧ ∀ x, x < N → xs[x]? = some (.bool (decide (x ∈ L)))
theorem TkL.start (N : Nat) : TkL (List.replicate N (.bool false)) N [] := by
  refine ⟨by simp, fun x hx => ?_⟩
  rw [List.getElem?_replicate, if_pos hx]; rfl
theorem TkL.add {xs : List Value} {N : Nat} {L : List Nat} {y : Nat} (h : TkL xs N L) (hy : y < N) : TkL (xs.set y (.bool true)) N (L ++ [y]) := by
  refine ⟨by rw [List.length_set]; exact h.1, fun x hx => ?_⟩
  rw [List.getElem?_set]
  by_cases hxy : y = x
  · subst hxy
    rw [if_pos rfl, if_pos (by rw [h.1]; exact hx)]
    simp
  · rw [if_neg hxy, h.2 x hx]
    have : (x ∈ L ++ [y]) ↔ x ∈ L := by rw [List.mem_append, List.mem_singleton]; exact ⟨fun h => h.resolve_right (fun e => hxy e.symm), .inl⟩
    simp only [this]
theorem inf_bool : (Tryz.prog.info? 4).map (fun i => (i.zero, i.size, i.bytes)) = some (some (.bool false), 1, 1) := by kernel_rfl
theorem psOk_ilv {a b : List PT} {n : Nat} (hs : psSh (a, b) = true) (hn : a.length = n) : psOk (a, b) = decide ((ilv (psLs n 0 a) (psLs n 1 b)).Nodup) := by
  obtain ⟨_, he, _⟩ := psSh_iff.1 hs
  rw [psOk, hs, Bool.true_and]
  have hp := (ilv_perm (l := psLs n 0 a) (m := psLs n 1 b) (by rw [psLs_len, psLs_len]; exact he)).nodup_iff
  have e : psAll (a, b) = psLs n 0 a ++ psLs n 1 b := by unfold psAll; simp only [hn]
  rw [e]
  simp only [hp]
set_option maxHeartbeats 1000000 in
theorem l06Ok_at (g o : Nat) (A B : Option Addr) (n c m d : Nat) (p : Psg) (w : World) (hn : n ≤ 1099511627776) (hm : m ≤ 1099511627776) (hx : Bo w g o #[.slice A n c, .slice B m d]) (hr : Rd w w.heap.size 2 A n (ths p.1)) (hs : Rd w w.heap.size 2 B m (ths p.2)) :
    Calls Tryz.prog 87 #[.pointer (some ⟨g, o, none⟩)] w fun e w' => e = .returned (.bool (psOk p)) ∧ Below w.heap.size w w' := by
  have hC := l06Shape_qat g o A B n c m d p w hn hm hx hr hs
  cases hp : psSh p with
  | false =>
    have HZ : Hid (psOk p = false) := by show _ = _; rw [psOk, hp]; rfl
    rw [hp] at hC
    have hC := hid hC
    clear hr hs hp hx
    go_enter Tryz.func87, Tryz.ntmps87
    go_wp2_with fail
    refine hC.out.mono ?_
    rintro e w1 ⟨rfl, k, rfl⟩
    go_wp2
    go_ret
    exact ⟨ret_bool HZ.out.symm, (by repeat' (first | exact Below.refl _ _ | (with_reducible first | assumption | exact Nat.le_refl _ | refine Below.alloc ?_ ?_ _ | refine Below.setCell ?_ ?_ _ | refine Below.drew ?_ | refine below_drewN ?_ _) | refine Below.trans ?_ (Below.mono (by assumption) ?_) | exact Below.size (by assumption) | omega | go_size | (simp at *; omega)))⟩
  | true =>
    rw [hp] at hC
    have hC := hid hC
    obtain ⟨a, b⟩ := p
    obtain ⟨⟨h1, h8⟩, he, hoa, hob⟩ := psSh_iff.1 hp
    have l1 := hr.th_len
    have l2 := hs.th_len
    simp only at l1 l2 h1 h8 he hoa hob
    obtain rfl : n = m := by omega
    rw [l1] at h1 h8
    have hOk := hid (psOk_ilv hp l1)
    have hLt := hid (fun (i : Nat) (x y : PT) (h : a[i]? = some x) (h' : b[i]? = some y) => ilv_take (psLs_at (n := n) (j := 0) h) (psLs_at (n := n) (j := 1) h'))
    have hLl : Hid ((ilv (psLs n 0 a) (psLs n 1 b)).length = 2 * n) := by show _ = _; rw [ilv_len (by rw [psLs_len, psLs_len]; exact he), psLs_len, l1]
    have hpa := hid (fun (x : PT) (i : Nat) (h : a[i]? = some x) => ptsOk_iff.1 hoa x (List.mem_of_getElem? h))
    have hpb := hid (fun (x : PT) (i : Nat) (h : b[i]? = some x) => ptsOk_iff.1 hob x (List.mem_of_getElem? h))
    obtain ⟨L, hL⟩ : ∃ L, ilv (psLs n 0 a) (psLs n 1 b) = L := ⟨_, rfl⟩
    rw [hL] at hOk hLt hLl
    have hgl := hx.lt
    have HX := hid hx
    have HR := hid hr
    have HS := hid hs
    clear hp hL he l1 l2 hoa hob hx hr hs
    go_enter Tryz.func87, Tryz.ntmps87
    go_wp2_with fail
    refine hC.out.mono ?_
    rintro e w1 ⟨rfl, k, rfl⟩
    clear hC
    have hB1 : Below w.heap.size w (w.drewN k) := (by repeat' (first | exact Below.refl _ _ | (with_reducible first | assumption | exact Nat.le_refl _ | refine Below.alloc ?_ ?_ _ | refine Below.setCell ?_ ?_ _ | refine Below.drew ?_ | refine below_drewN ?_ _) | refine Below.trans ?_ (Below.mono (by assumption) ?_) | exact Below.size (by assumption) | omega | go_size | (simp at *; omega)))
    have c0 := (HX.out.below hB1 hgl).cell 0
    replace c0 : (w.drewN k).cell? ⟨g, o, none⟩ = some (.slice A n c) := c0
    obtain ⟨w1, hw1⟩ : ∃ w1, w.drewN k = w1 := ⟨_, rfl⟩
    have hwz : w.heap.size = w1.heap.size := by rw [← hw1]; rfl
    rw [hw1] at hB1 c0 ⊢
    clear hw1
    have hw2n : IntKind.i64.wrap (2 * (n : Int)) = ((2 * n : Nat) : Int) := by rw [show 2 * (n : Int) = ((2 * n : Nat) : Int) by omega]; exact IntWalk.i64_in _ (by omega)
    go_wp2_with (at_make; refine make_own w.heap.size Tryz.underlying140 inf_bool rfl rfl _ _ rfl .i64 .i64 (2 * n) (by first | rfl | (simp [hw2n]; done)) (by first | rfl | (simp [hw2n]; done)) (by omega) (by omega) (by omega) ?_; intro w2 ho2 hb2 hz2)
    have hTk := hid (TkL.start (2 * n))
    have hTN : Hid (([] : List Nat) = L.take (2 * 0)) := by show _ = _; rw [Nat.mul_zero, List.take_zero]
    have hB2 : Below w.heap.size w w2 := hB1.trans (hb2.mono (by omega))
    have hgs : w.heap.size ≤ w1.heap.size := by omega
    clear hb2
    have hgw := (ho2.lt w1.heap.size rfl).2
    go_loopw [5] (fun i wr => Hid (∃ (k : Nat) (xs : List Value), i = .int .i64 k ∧ k ≤ n ∧ Hid (TkL xs (2 * n) (L.take (2 * k))) ∧ Hid ((L.take (2 * k)).Nodup) ∧ wr.ownsRow w.heap.size 4 1 (.slice (some ⟨w1.heap.size, 0, none⟩) (2 * n) (2 * n)) (2 * n) xs ∧ Below w.heap.size w wr)) (fun i _ => n - (intOf i).toNat)
    case atStart => exact hid ⟨0, _, rfl, by omega, by rw [← hTN.out]; exact hTk, by rw [← hTN.out]; exact hid List.nodup_nil, ho2, hB2⟩
    case round =>
      clear hTk hTN ho2 hB2 hz2 c0 hgw
      obtain ⟨k, xs, rfl, hk, hT, hN, ho, hb0⟩ := hrel.out
      clear hrel
      have hgw := (ho.lt w1.heap.size rfl).2
      have hz := hb0.size
      by_cases hlt : k < n
      · obtain ⟨ba, offa, x, rfl, hba, hx, hd, x0c, x1c⟩ := (HR.out.below hb0 (Nat.le_refl _)).th_at hlt
        obtain ⟨bb, offb, y, rfl, hbb, hy, hd', y0c, y1c⟩ := (HS.out.below hb0 (Nat.le_refl _)).th_at hlt
        have hS2 := hid (fun (w9 : World) (hb9 : Below wr.heap.size wr w9) => (⟨(hb9.cell (p := ⟨bb, offb + k * 2, none⟩) (by simp; omega)).trans y0c, (hb9.cell (p := ⟨bb, offb + k * 2 + 1, none⟩) (by simp; omega)).trans y1c⟩ : _ ∧ _))
        have hlk := hLt.out k x y hx hy
        obtain ⟨⟨v0, v15⟩, _⟩ := ptOk_iff.1 (hpa.out x k hx)
        obtain ⟨⟨u0, u15⟩, _⟩ := ptOk_iff.1 (hpb.out y k hy)
        obtain ⟨x1, x2⟩ := x
        obtain ⟨y1, y2⟩ := y
        simp only at v0 v15 u0 u15 x0c x1c y0c y1c hS2
        have hA := hid (fun w9 => l06Land_any x1 0 (k : Int) (n : Int) x2 w9 v0 v15 (by omega) (by omega) (by omega) (by omega) (by omega) (by omega))
        have hB := hid (fun w9 => l06Land_any y1 1 (k : Int) (n : Int) y2 w9 u0 u15 (by omega) (by omega) (by omega) (by omega) (by omega) (by omega))
        simp only [Int.toNat_natCast, show (0 : Int).toNat = 0 from rfl, show (1 : Int).toNat = 1 from rfl] at hA hB
        have hp2 : psL n 0 k (x1, x2) < 2 * n := psL_lt (by omega) (by omega)
        have hq2 : psL n 1 k (y1, y2) < 2 * n := psL_lt (by omega) (by omega)
        generalize psL n 0 k (x1, x2) = pa at *
        generalize psL n 1 k (y1, y2) = pb at *
        have HLK := hid hlk
        have cg := (HX.out.below hb0 hgl).cell 0
        replace cg : wr.cell? ⟨g, o, none⟩ = some (.slice (some ⟨ba, offa, none⟩) n c) := cg
        have hX9 := hid (fun (w9 : World) (hb9 : Below w.heap.size w w9) => (show w9.cell? ⟨g, o + 1, none⟩ = some (.slice (some ⟨bb, offb, none⟩) n d) from (HX.out.below hb9 hgl).cell 1))
        clear hx hy hd hd' hlk y0c y1c hbb
        go_wp2_with fail
        refine (hA.out _).mono ?_
        rintro e w3 ⟨rfl, hb3⟩
        have hB3 : Below w.heap.size w w3 := (by repeat' (first | exact Below.refl _ _ | (with_reducible first | assumption | exact Nat.le_refl _ | refine Below.alloc ?_ ?_ _ | refine Below.setCell ?_ ?_ _ | refine Below.drew ?_ | refine below_drewN ?_ _) | refine Below.trans ?_ (Below.mono (by assumption) ?_) | exact Below.size (by assumption) | omega | go_size | (simp at *; omega)))
        have ho3 := own_below ho hb3
        obtain ⟨y0c, y1c⟩ := hS2.out w3 hb3
        have cg1 := hX9.out w3 hB3
        clear hS2 hA ho cg x0c x1c hba
        go_wp2_with fail
        refine (hB.out _).mono ?_
        rintro e w4 ⟨rfl, hb4⟩
        have hB4 : Below w.heap.size w w4 := (by repeat' (first | exact Below.refl _ _ | (with_reducible first | assumption | exact Nat.le_refl _ | refine Below.alloc ?_ ?_ _ | refine Below.setCell ?_ ?_ _ | refine Below.drew ?_ | refine below_drewN ?_ _) | refine Below.trans ?_ (Below.mono (by assumption) ?_) | exact Below.size (by assumption) | omega | go_size | (simp at *; omega)))
        have ho4 := own_below ho3 hb4
        have hgw4 := (ho4.lt w1.heap.size rfl).2
        clear hB ho3 cg1 y0c y1c hX9 hb3 hb4
        have ca := ho4.cellAt pa (by omega)
        rw [hT.out.2 pa hp2] at ca
        have cb := ho4.cellAt pb (by omega)
        rw [hT.out.2 pb hq2] at cb
        have hbad : (pa ∈ L.take (2 * k) ∨ pa = pb ∨ pb ∈ L.take (2 * k)) → Hid (psOk (a, b) = false) := fun h => by
          show _ = _
          rw [hOk.out]
          refine decide_eq_false fun hnd => ?_
          have h2 := nodup_take hnd (2 * (k + 1))
          rw [HLK.out, List.nodup_append] at h2
          obtain ⟨_, h3, h4⟩ := h2
          rcases h with h | h | h
          · exact h4 pa h pa (by simp) rfl
          · subst h; simp at h3
          · exact h4 pb h pb (by simp) rfl
        obtain ⟨t1, ht1⟩ : ∃ t, decide (pa ∈ L.take (2 * k)) = t := ⟨_, rfl⟩
        rw [ht1] at ca
        cases t1
        · by_cases hab : pa = pb
          · have HZ := hbad (.inr (.inl hab))
            have hq : ((pa : Int) == (pb : Int)) = true := by rw [hab]; simp
            clear hbad hT hN HLK ht1 hab cb
            go_wp2
            go_ret
            exact ⟨ret_bool HZ.out.symm, (by repeat' (first | exact Below.refl _ _ | (with_reducible first | assumption | exact Nat.le_refl _ | refine Below.alloc ?_ ?_ _ | refine Below.setCell ?_ ?_ _ | refine Below.drew ?_ | refine below_drewN ?_ _) | refine Below.trans ?_ (Below.mono (by assumption) ?_) | exact Below.size (by assumption) | omega | go_size | (simp at *; omega)))⟩
          · have hq : ((pa : Int) == (pb : Int)) = false := by simp; omega
            obtain ⟨t2, ht2⟩ : ∃ t, decide (pb ∈ L.take (2 * k)) = t := ⟨_, rfl⟩
            rw [ht2] at cb
            cases t2
            · have HT : Hid (TkL ((xs.set pa (.bool true)).set pb (.bool true)) (2 * n) (L.take (2 * (k + 1)))) := by
                rw [HLK.out, show L.take (2 * k) ++ [pa, pb] = (L.take (2 * k) ++ [pa]) ++ [pb] by simp]
                exact (hT.out.add hp2).add hq2
              have HN : Hid ((L.take (2 * (k + 1))).Nodup) := by
                show List.Nodup _
                rw [HLK.out, List.nodup_append]
                refine ⟨hN.out, by simp; exact hab, fun u hu z hz e => ?_⟩
                subst e
                rcases List.mem_cons.1 hz with rfl | hz
                · exact of_decide_eq_false ht1 hu
                · rw [List.mem_singleton] at hz; subst hz; exact of_decide_eq_false ht2 hu
              have fa := ho4.frozenAt pa
              obtain ⟨ho5, _⟩ := ho4.stored pa (.bool true)
              have fb := ho5.frozenAt pb
              have cb5 : ∃ u, (w4.setCell ⟨w1.heap.size, pa, none⟩ (.bool true)).cell? ⟨w1.heap.size, pb, none⟩ = some u := by
                rw [ho5.cellAt pb (by omega)]
                exact ⟨_, List.getElem?_eq_getElem (by rw [List.length_set, hT.out.1]; omega)⟩
              obtain ⟨u5, cb5⟩ := cb5
              obtain ⟨ho6, _⟩ := ho5.stored pb (.bool true)
              have HO6 := hid ho6
              have hb6 : Below w.heap.size w ((w4.setCell ⟨w1.heap.size, pa, none⟩ (.bool true)).setCell ⟨w1.heap.size, pb, none⟩ (.bool true)) := (by repeat' (first | exact Below.refl _ _ | (with_reducible first | assumption | exact Nat.le_refl _ | refine Below.alloc ?_ ?_ _ | refine Below.setCell ?_ ?_ _ | refine Below.drew ?_ | refine below_drewN ?_ _) | refine Below.trans ?_ (Below.mono (by assumption) ?_) | exact Below.size (by assumption) | omega | go_size | (simp at *; omega)))
              clear hbad hT hN HLK ht1 ht2 hab ho4 ho5 ho6
              go_wp2
              go_roundw
              case rel => exact hid ⟨k + 1, _, by go_num, by omega, HT, HN, HO6.out, hb6⟩
              case measure => simp [intOf]; omega
            · have HZ := hbad (.inr (.inr (of_decide_eq_true ht2)))
              clear hbad hT hN HLK ht1 ht2 hab
              go_wp2
              go_ret
              exact ⟨ret_bool HZ.out.symm, (by repeat' (first | exact Below.refl _ _ | (with_reducible first | assumption | exact Nat.le_refl _ | refine Below.alloc ?_ ?_ _ | refine Below.setCell ?_ ?_ _ | refine Below.drew ?_ | refine below_drewN ?_ _) | refine Below.trans ?_ (Below.mono (by assumption) ?_) | exact Below.size (by assumption) | omega | go_size | (simp at *; omega)))⟩
        · have HZ := hbad (.inl (of_decide_eq_true ht1))
          clear hbad hT hN HLK ht1 cb
          go_wp2
          go_ret
          exact ⟨ret_bool HZ.out.symm, (by repeat' (first | exact Below.refl _ _ | (with_reducible first | assumption | exact Nat.le_refl _ | refine Below.alloc ?_ ?_ _ | refine Below.setCell ?_ ?_ _ | refine Below.drew ?_ | refine below_drewN ?_ _) | refine Below.trans ?_ (Below.mono (by assumption) ?_) | exact Below.size (by assumption) | omega | go_size | (simp at *; omega)))⟩
      · have HZ : Hid (psOk (a, b) = true) := by
          show _ = _
          rw [hOk.out]
          have h := hN.out
          rw [show k = n by omega, List.take_of_length_le (by rw [hLl.out]; omega)] at h
          exact decide_eq_true h
        have cg := (HX.out.below hb0 hgl).cell 0
        clear hT hN
        go_wp2
        go_ret
        exact ⟨ret_bool HZ.out.symm, (by repeat' (first | exact Below.refl _ _ | (with_reducible first | assumption | exact Nat.le_refl _ | refine Below.alloc ?_ ?_ _ | refine Below.setCell ?_ ?_ _ | refine Below.drew ?_ | refine below_drewN ?_ _) | refine Below.trans ?_ (Below.mono (by assumption) ?_) | exact Below.size (by assumption) | omega | go_size | (simp at *; omega)))⟩
theorem l06Ok_any (g : Nat) (A B : Option Addr) (n c m d : Nat) (p : Psg) (w : World) (hn : n ≤ 1099511627776) (hm : m ≤ 1099511627776) (hx : Bx w g 31 #[.slice A n c, .slice B m d]) (hr : Rd w w.heap.size 2 A n (ths p.1)) (hs : Rd w w.heap.size 2 B m (ths p.2)) :
    Calls Tryz.prog 87 #[.pointer (some ⟨g, 0, none⟩)] w fun e w' => e = .returned (.bool (psOk p)) ∧ Below w.heap.size w w' := l06Ok_at g 0 A B n c m d p w hn hm hx.bo hr hs
end Go.Proofs.YtgphkfnobmponaaGreat

/- Contracts of the laws' own helpers over beats, throws of passing patterns, multiplex and passing patterns: compare, mark, look again. -/
namespace Go.Proofs.YtgphkfnobmponaaGreat
open Go.RowKit
set_option linter.unusedVariables false

/-- Marks. -/
def mkT (K : Int) : Int × Bool := (K, ((K + 1).tmod 3 == 0))
def mkBt (K : Int) : Beat := (mkT K, mkT (K + 2))
def mkB (k0 : Int) : Nat → List Beat
  | 0 => []
  | n + 1 => mkB k0 n ++ [mkBt (k0 + 4 * (n : Int))]
def mkP (k0 : Int) : Nat → List (Int × Bool)
  | 0 => []
  | n + 1 => mkP k0 n ++ [mkT (k0 + 2 * (n : Int))]
end Go.Proofs.YtgphkfnobmponaaGreat
