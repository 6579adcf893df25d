/- Contracts that compare multiplex patterns: l00Same, sameNumbers, SameMulti (both). -/
import Derived.Test.YtlbhfjbbkkkldaaGl
import Derived.Test.YtlbhfjbbkkkldaaCo
import Derived.Deep.QuietTactic
import Derived.BigQuiet
namespace Go.Proofs.Ytlbhfjbbkkkldaa
open Go.RowKit
set_option linter.unusedVariables false

theorem sameNums_any (A A' : Option Addr) (n n' c c' : Nat) (xs ys : List Int) (w : World) (hn : n ≤ 1099511627776) (hn' : n' ≤ 1099511627776) (h : Rd w w.heap.size 1 A n (ints xs)) (h' : Rd w w.heap.size 1 A' n' (ints ys)) :
    Calls Try.prog 124 #[.slice A n c, .slice A' n' c'] w fun e w' => e = .returned (.bool (decide (xs = ys))) ∧ Below w.heap.size w w' := by
  have hl := h.len
  have hl' := h'.len
  by_cases hnn : n = n'
  · subst hnn
    have hst : Hid (decide (xs.drop 0 = ys.drop 0) = decide (xs = ys)) := rfl
    go_enter Try.func124, Try.ntmps124
    go_wp2
    go_loopw [13] (fun i wr => ∃ k : Nat, k ≤ n ∧ i = .int .i64 k ∧ Hid (decide (xs.drop k = ys.drop k) = decide (xs = ys)) ∧ Below w.heap.size w wr) (fun i _ => n - (intOf i).toNat)
    case atStart => exact ⟨0, Nat.zero_le _, rfl, hst, Below.refl _ _⟩
    case round =>
    obtain ⟨k, hk, rfl, he, hb0⟩ := hrel
    by_cases hlt : k < n
    · obtain ⟨b, off, x, rfl, hb, hx, hd, hc⟩ := (h.below hb0 (Nat.le_refl _)).at_ hlt
      obtain ⟨b', off', x', rfl, hb', hx', hd', hc'⟩ := (h'.below hb0 (Nat.le_refl _)).at_ hlt
      by_cases hxx : x = x'
      · have hq : (x != x') = false := by simp [hxx]
        have HZ : Hid (decide (xs.drop (k + 1) = ys.drop (k + 1)) = decide (xs = ys)) := by
          show _ = _
          rw [← he.out, hd, hd', hxx]; simp
        clear hx hx' hd hd' he hst h h' hb hb' hl hl' hxx
        go_wp2
        go_quiet (fail)
        go_wp2
        go_roundw
        case rel => exact ⟨k + 1, by omega, by go_num, HZ, (by repeat' (first | exact Below.refl _ _ | (with_reducible assumption) | (with_reducible refine Below.alloc ?_ ?_ _) | (with_reducible refine Below.setCell ?_ ?_ _) | (with_reducible refine Below.drew ?_) | (with_reducible refine below_drewN ?_ _) | (refine Below.trans ?_ (Below.mono (by assumption) ?_)) | (with_reducible exact Nat.le_refl _) | (with_reducible assumption) | (exact Below.size (by assumption)) | omega | go_size | (simp at *; omega)))⟩
        case measure => simp [intOf]; omega
      · have hq : (x != x') = true := by simpa using hxx
        have HZ : Hid (decide (xs = ys) = false) := by
          show _ = _
          rw [← he.out, hd, hd']; simp [hxx]
        clear hx hx' hd hd' he hst h h' hb hb' hl hl' hxx
        go_wp2
        go_quiet (fail)
        go_wp2
        go_ret
        exact ⟨ret_bool HZ.out.symm, (by repeat' (first | exact Below.refl _ _ | (with_reducible assumption) | (with_reducible refine Below.alloc ?_ ?_ _) | (with_reducible refine Below.setCell ?_ ?_ _) | (with_reducible refine Below.drew ?_) | (with_reducible refine below_drewN ?_ _) | (refine Below.trans ?_ (Below.mono (by assumption) ?_)) | (with_reducible exact Nat.le_refl _) | (with_reducible assumption) | (exact Below.size (by assumption)) | omega | go_size | (simp at *; omega)))⟩
    · have HZ : Hid (decide (xs = ys) = true) := by
        show _ = _
        rw [← he.out, List.drop_eq_nil_of_le (by omega), List.drop_eq_nil_of_le (by omega)]; rfl
      clear he hst hl hl' h h'
      go_wp2
      go_ret
      exact ⟨ret_bool HZ.out.symm, (by repeat' (first | exact Below.refl _ _ | (with_reducible assumption) | (with_reducible refine Below.alloc ?_ ?_ _) | (with_reducible refine Below.setCell ?_ ?_ _) | (with_reducible refine Below.drew ?_) | (with_reducible refine below_drewN ?_ _) | (refine Below.trans ?_ (Below.mono (by assumption) ?_)) | (with_reducible exact Nat.le_refl _) | (with_reducible assumption) | (exact Below.size (by assumption)) | omega | go_size | (simp at *; omega)))⟩
  · have HZ : Hid (decide (xs = ys) = false) := by
      show _ = _
      refine decide_eq_false fun e => hnn ?_
      rw [← hl, ← hl', e]
    clear hl hl' h h'
    go_enter Try.func124, Try.ntmps124
    go_wp2
    go_ret
    exact ⟨ret_bool HZ.out.symm, (by repeat' (first | exact Below.refl _ _ | (with_reducible assumption) | (with_reducible refine Below.alloc ?_ ?_ _) | (with_reducible refine Below.setCell ?_ ?_ _) | (with_reducible refine Below.drew ?_) | (with_reducible refine below_drewN ?_ _) | (refine Below.trans ?_ (Below.mono (by assumption) ?_)) | (with_reducible exact Nat.le_refl _) | (with_reducible assumption) | (exact Below.size (by assumption)) | omega | go_size | (simp at *; omega)))⟩
theorem l00Same_any (A A' : Option Addr) (n n' c c' : Nat) (xs ys : List Int) (w : World) (hn : n ≤ 1099511627776) (hn' : n' ≤ 1099511627776) (h : Rd w w.heap.size 1 A n (ints xs)) (h' : Rd w w.heap.size 1 A' n' (ints ys)) :
    Calls Try.prog 80 #[.slice A n c, .slice A' n' c'] w fun e w' => e = .returned (.bool (decide (xs = ys))) ∧ Below w.heap.size w w' := by
  have hl := h.len
  have hl' := h'.len
  by_cases hnn : n = n'
  · subst hnn
    have hst : Hid (decide (xs.drop 0 = ys.drop 0) = decide (xs = ys)) := rfl
    go_enter Try.func80, Try.ntmps80
    go_wp2
    go_loopw [5] (fun i wr => ∃ k : Nat, k ≤ n ∧ i = .int .i64 k ∧ Hid (decide (xs.drop k = ys.drop k) = decide (xs = ys)) ∧ Below w.heap.size w wr) (fun i _ => n - (intOf i).toNat)
    case atStart => exact ⟨0, Nat.zero_le _, rfl, hst, Below.refl _ _⟩
    case round =>
    obtain ⟨k, hk, rfl, he, hb0⟩ := hrel
    by_cases hlt : k < n
    · obtain ⟨b, off, x, rfl, hb, hx, hd, hc⟩ := (h.below hb0 (Nat.le_refl _)).at_ hlt
      obtain ⟨b', off', x', rfl, hb', hx', hd', hc'⟩ := (h'.below hb0 (Nat.le_refl _)).at_ hlt
      by_cases hxx : x = x'
      · have hq : (x != x') = false := by simp [hxx]
        have HZ : Hid (decide (xs.drop (k + 1) = ys.drop (k + 1)) = decide (xs = ys)) := by
          show _ = _
          rw [← he.out, hd, hd', hxx]; simp
        clear hx hx' hd hd' he hst h h' hb hb' hl hl' hxx
        go_wp2
        go_quiet (fail)
        go_wp2
        go_roundw
        case rel => exact ⟨k + 1, by omega, by go_num, HZ, (by repeat' (first | exact Below.refl _ _ | (with_reducible assumption) | (with_reducible refine Below.alloc ?_ ?_ _) | (with_reducible refine Below.setCell ?_ ?_ _) | (with_reducible refine Below.drew ?_) | (with_reducible refine below_drewN ?_ _) | (refine Below.trans ?_ (Below.mono (by assumption) ?_)) | (with_reducible exact Nat.le_refl _) | (with_reducible assumption) | (exact Below.size (by assumption)) | omega | go_size | (simp at *; omega)))⟩
        case measure => simp [intOf]; omega
      · have hq : (x != x') = true := by simpa using hxx
        have HZ : Hid (decide (xs = ys) = false) := by
          show _ = _
          rw [← he.out, hd, hd']; simp [hxx]
        clear hx hx' hd hd' he hst h h' hb hb' hl hl' hxx
        go_wp2
        go_quiet (fail)
        go_wp2
        go_ret
        exact ⟨ret_bool HZ.out.symm, (by repeat' (first | exact Below.refl _ _ | (with_reducible assumption) | (with_reducible refine Below.alloc ?_ ?_ _) | (with_reducible refine Below.setCell ?_ ?_ _) | (with_reducible refine Below.drew ?_) | (with_reducible refine below_drewN ?_ _) | (refine Below.trans ?_ (Below.mono (by assumption) ?_)) | (with_reducible exact Nat.le_refl _) | (with_reducible assumption) | (exact Below.size (by assumption)) | omega | go_size | (simp at *; omega)))⟩
    · have HZ : Hid (decide (xs = ys) = true) := by
        show _ = _
        rw [← he.out, List.drop_eq_nil_of_le (by omega), List.drop_eq_nil_of_le (by omega)]; rfl
      clear he hst hl hl' h h'
      go_wp2
      go_ret
      exact ⟨ret_bool HZ.out.symm, (by repeat' (first | exact Below.refl _ _ | (with_reducible assumption) | (with_reducible refine Below.alloc ?_ ?_ _) | (with_reducible refine Below.setCell ?_ ?_ _) | (with_reducible refine Below.drew ?_) | (with_reducible refine below_drewN ?_ _) | (refine Below.trans ?_ (Below.mono (by assumption) ?_)) | (with_reducible exact Nat.le_refl _) | (with_reducible assumption) | (exact Below.size (by assumption)) | omega | go_size | (simp at *; omega)))⟩
  · have HZ : Hid (decide (xs = ys) = false) := by
      show _ = _
      refine decide_eq_false fun e => hnn ?_
      rw [← hl, ← hl', e]
    clear hl hl' h h'
    go_enter Try.func80, Try.ntmps80
    go_wp2
    go_ret
    exact ⟨ret_bool HZ.out.symm, (by repeat' (first | exact Below.refl _ _ | (with_reducible assumption) | (with_reducible refine Below.alloc ?_ ?_ _) | (with_reducible refine Below.setCell ?_ ?_ _) | (with_reducible refine Below.drew ?_) | (with_reducible refine below_drewN ?_ _) | (refine Below.trans ?_ (Below.mono (by assumption) ?_)) | (with_reducible exact Nat.le_refl _) | (with_reducible assumption) | (exact Below.size (by assumption)) | omega | go_size | (simp at *; omega)))⟩
set_option maxRecDepth 100000 in
theorem specSameMulti_any (A A' : Option Addr) (n n' c c' : Nat) (rows rows' : List (List Int)) (w : World) (hn : n ≤ 1099511627776) (hn' : n' ≤ 1099511627776) (hl : ∀ r ∈ rows, r.length ≤ 1099511627776) (hl' : ∀ r ∈ rows', r.length ≤ 1099511627776) (h : RdG w w.heap.size A n rows) (h' : RdG w w.heap.size A' n' rows') :
    Calls Try.prog 16 #[.agg #[.slice A n c], .agg #[.slice A' n' c']] w fun e w' => e = .returned (.bool (decide (rows = rows'))) ∧ Below w.heap.size w w' := by
  have hl1 := h.len
  have hl2 := h'.len
  obtain ⟨W, hW⟩ : ∃ W, (w.alloc (Obj.cells #[.slice A n c] 26)).alloc (Obj.cells #[.slice A' n' c'] 26) = W := ⟨_, rfl⟩
  have hX : Bx W w.heap.size 26 #[.slice A n c] := by rw [← hW]; exact (Bx.new _ _ _).alloc _
  have hY : Bx W (w.heap.size + 1) 26 #[.slice A' n' c'] := by
    have := Bx.new (w.alloc (Obj.cells #[.slice A n c] 26)) 26 #[.slice A' n' c']
    rw [hW] at this
    simpa using this
  have hB : Below w.heap.size w W := by rw [← hW]; exact (by repeat' (first | exact Below.refl _ _ | (with_reducible assumption) | (with_reducible refine Below.alloc ?_ ?_ _) | (with_reducible refine Below.setCell ?_ ?_ _) | (with_reducible refine Below.drew ?_) | (with_reducible refine below_drewN ?_ _) | (refine Below.trans ?_ (Below.mono (by assumption) ?_)) | (with_reducible exact Nat.le_refl _) | (with_reducible assumption) | (exact Below.size (by assumption)) | omega | go_size | (simp at *; omega)))
  have HL1 := hid hl
  have HL2 := hid hl'
  by_cases hnn : n = n'
  · subst hnn
    have hst : Hid (decide (rows.drop 0 = rows'.drop 0) = decide (rows = rows')) := rfl
    have HST : Hid (∃ k : Nat, k = 0 ∧ Bx W w.heap.size 26 #[.slice A n c] ∧ Bx W (w.heap.size + 1) 26 #[.slice A' n c'] ∧ Below w.heap.size w W) := ⟨0, rfl, hX, hY, hB⟩
    rw [← hW] at HST
    clear hW hX hY hB hl hl' hl1 hl2 W
    go_enter Try.func16, Try.ntmps16
    go_wp2
    go_loopw [5] (fun i wr => Hid (∃ k : Nat, k ≤ n ∧ i = .int .i64 k ∧ Hid (decide (rows.drop k = rows'.drop k) = decide (rows = rows')) ∧ Bx wr w.heap.size 26 #[.slice A n c] ∧ Bx wr (w.heap.size + 1) 26 #[.slice A' n c'] ∧ Below w.heap.size w wr)) (fun i _ => n - (intOf i).toNat)
    case atStart =>
      obtain ⟨_, _, h1, h2, h3⟩ := HST.out
      exact hid ⟨0, Nat.zero_le _, rfl, hst, h1, h2, h3⟩
    case round =>
    clear HST
    obtain ⟨k, hk, rfl, he, hX, hY, hb0⟩ := hrel.out
    clear hrel
    have hz := hb0.size
    have hx1 := hX.lt
    have hy1 := hY.lt
    have x0 : wr.cell? ⟨w.heap.size, 0, none⟩ = some (.slice A n c) := hX.cell 0
    have y0 : wr.cell? ⟨w.heap.size + 1, 0, none⟩ = some (.slice A' n c') := hY.cell 0
    by_cases hlt : k < n
    · obtain ⟨b, off, row, Ai, ci, rfl, hb, hx, hd, hc, hrd⟩ := (h.below hb0 (Nat.le_refl _)).at_ hlt
      obtain ⟨b', off', row', Ai', ci', rfl, hb', hx', hd', hc', hrd'⟩ := (h'.below hb0 (Nat.le_refl _)).at_ hlt
      have hr1 := HL1.out row (List.mem_of_getElem? hx)
      have hr2 := HL2.out row' (List.mem_of_getElem? hx')
      have HE := hid (fun (w1 : World) (q : Below wr.heap.size wr w1) => l00Same_any Ai Ai' row.length row'.length ci ci' row row' w1 hr1 hr2 ((hrd.below q hz).more (Nat.le_trans hz q.size)) ((hrd'.below q hz).more (Nat.le_trans hz q.size)))
      by_cases hxx : row = row'
      · have HZ : Hid (decide (rows.drop (k + 1) = rows'.drop (k + 1)) = decide (rows = rows')) := by
          show _ = _
          rw [← he.out, hd, hd', hxx]; simp
        have HT : Hid (decide (row = row') = true) := decide_eq_true hxx
        have HX := hid hX
        have HY := hid hY
        clear hx hx' hd hd' he h h' hb hb' hxx hrd hrd' hst hX hY hr1 hr2
        go_wp2
        go_still_tail 10, (by kernel_rfl)
        change wpList _ _ _ _ _ wr.drew
        have hb1 : Below w.heap.size w wr.drew := hb0.drew
        have hX1 := hid (HX.out.drew)
        have hY1 := hid (HY.out.drew)
        have hq : Below wr.heap.size wr wr.drew := (Below.refl _ _).drew
        have hzz : wr.heap.size = wr.drew.heap.size := rfl
        have HQ := hid hzz
        clear hzz x0 y0 hc hc' HX HY
        generalize wr.drew = w2 at *
        go_wp2_with (go_at_call 80; refine (HE.out _ hq).mono ?_; rw [HT.out]; rintro e w3 ⟨rfl, hb2⟩)
        have hzq := HQ.out
        have hxq : w.heap.size < w2.heap.size := hX1.out.lt
        have hyq : w.heap.size + 1 < w2.heap.size := hY1.out.lt
        go_roundw
        case rel => exact hid ⟨k + 1, by omega, by go_num, HZ, hX1.out.below hb2 hxq, hY1.out.below hb2 hyq, hb1.trans (hb2.mono (by omega))⟩
        case measure => simp [intOf]; omega
      · have HZ : Hid (decide (rows = rows') = false) := by
          show _ = _
          rw [← he.out, hd, hd']; simp [hxx]
        have HT : Hid (decide (row = row') = false) := decide_eq_false hxx
        clear hx hx' hd hd' he h h' hb hb' hxx hrd hrd' hst hX hY hr1 hr2
        go_wp2
        go_still_tail 10, (by kernel_rfl)
        change wpList _ _ _ _ _ wr.drew
        have hb1 : Below w.heap.size w wr.drew := hb0.drew
        have hq : Below wr.heap.size wr wr.drew := (Below.refl _ _).drew
        have hzz : wr.heap.size = wr.drew.heap.size := rfl
        have HQ := hid hzz
        clear hzz x0 y0 hc hc'
        generalize wr.drew = w2 at *
        go_wp2_with (go_at_call 80; refine (HE.out _ hq).mono ?_; rw [HT.out]; rintro e w3 ⟨rfl, hb2⟩)
        go_ret
        exact ⟨ret_bool HZ.out.symm, hb1.trans (hb2.mono (by have := HQ.out; omega))⟩
    · have HZ : Hid (decide (rows = rows') = true) := by
        show _ = _
        have e1 := h.len
        have e2 := h'.len
        rw [← he.out, List.drop_eq_nil_of_le (by omega), List.drop_eq_nil_of_le (by omega)]; rfl
      clear he hst h h' hX hY
      go_wp2
      go_ret
      exact ⟨ret_bool HZ.out.symm, hb0⟩
  · have HZ : Hid (decide (rows = rows') = false) := by
      show _ = _
      refine decide_eq_false fun e => hnn ?_
      rw [← hl1, ← hl2, e]
    clear hl1 hl2 h h' hl hl' hX hY hB hW HL1 HL2 W
    go_enter Try.func16, Try.ntmps16
    go_wp2
    go_ret
    exact ⟨ret_bool HZ.out.symm, (by repeat' (first | exact Below.refl _ _ | (with_reducible assumption) | (with_reducible refine Below.alloc ?_ ?_ _) | (with_reducible refine Below.setCell ?_ ?_ _) | (with_reducible refine Below.drew ?_) | (with_reducible refine below_drewN ?_ _) | (refine Below.trans ?_ (Below.mono (by assumption) ?_)) | (with_reducible exact Nat.le_refl _) | (with_reducible assumption) | (exact Below.size (by assumption)) | omega | go_size | (simp at *; omega)))⟩
set_option maxRecDepth 100000 in
theorem SameMulti_any (A A' : Option Addr) (n n' c c' : Nat) (rows rows' : List (List Int)) (w : World) (hn : n ≤ 1099511627776) (hn' : n' ≤ 1099511627776) (hl : ∀ r ∈ rows, r.length ≤ 1099511627776) (hl' : ∀ r ∈ rows', r.length ≤ 1099511627776) (h : RdG w w.heap.size A n rows) (h' : RdG w w.heap.size A' n' rows') :
    Calls Try.prog 62 #[.agg #[.slice A n c], .agg #[.slice A' n' c']] w fun e w' => e = .returned (.bool (decide (rows = rows'))) ∧ Below w.heap.size w w' := by
  have hl1 := h.len
  have hl2 := h'.len
  obtain ⟨W, hW⟩ : ∃ W, (w.alloc (Obj.cells #[.slice A n c] 26)).alloc (Obj.cells #[.slice A' n' c'] 26) = W := ⟨_, rfl⟩
  have hX : Bx W w.heap.size 26 #[.slice A n c] := by rw [← hW]; exact (Bx.new _ _ _).alloc _
  have hY : Bx W (w.heap.size + 1) 26 #[.slice A' n' c'] := by
    have := Bx.new (w.alloc (Obj.cells #[.slice A n c] 26)) 26 #[.slice A' n' c']
    rw [hW] at this
    simpa using this
  have hB : Below w.heap.size w W := by rw [← hW]; exact (by repeat' (first | exact Below.refl _ _ | (with_reducible assumption) | (with_reducible refine Below.alloc ?_ ?_ _) | (with_reducible refine Below.setCell ?_ ?_ _) | (with_reducible refine Below.drew ?_) | (with_reducible refine below_drewN ?_ _) | (refine Below.trans ?_ (Below.mono (by assumption) ?_)) | (with_reducible exact Nat.le_refl _) | (with_reducible assumption) | (exact Below.size (by assumption)) | omega | go_size | (simp at *; omega)))
  have HL1 := hid hl
  have HL2 := hid hl'
  by_cases hnn : n = n'
  · subst hnn
    have hst : Hid (decide (rows.drop 0 = rows'.drop 0) = decide (rows = rows')) := rfl
    have HST : Hid (∃ k : Nat, k = 0 ∧ Bx W w.heap.size 26 #[.slice A n c] ∧ Bx W (w.heap.size + 1) 26 #[.slice A' n c'] ∧ Below w.heap.size w W) := ⟨0, rfl, hX, hY, hB⟩
    rw [← hW] at HST
    clear hW hX hY hB hl hl' hl1 hl2 W
    go_enter Try.func62, Try.ntmps62
    go_wp2
    go_loopw [16] (fun i wr => Hid (∃ k : Nat, k ≤ n ∧ i = .int .i64 k ∧ Hid (decide (rows.drop k = rows'.drop k) = decide (rows = rows')) ∧ Bx wr w.heap.size 26 #[.slice A n c] ∧ Bx wr (w.heap.size + 1) 26 #[.slice A' n c'] ∧ Below w.heap.size w wr)) (fun i _ => n - (intOf i).toNat)
    case atStart =>
      obtain ⟨_, _, h1, h2, h3⟩ := HST.out
      exact hid ⟨0, Nat.zero_le _, rfl, hst, h1, h2, h3⟩
    case round =>
    clear HST
    obtain ⟨k, hk, rfl, he, hX, hY, hb0⟩ := hrel.out
    clear hrel
    have hz := hb0.size
    have hx1 := hX.lt
    have hy1 := hY.lt
    have x0 : wr.cell? ⟨w.heap.size, 0, none⟩ = some (.slice A n c) := hX.cell 0
    have y0 : wr.cell? ⟨w.heap.size + 1, 0, none⟩ = some (.slice A' n c') := hY.cell 0
    by_cases hlt : k < n
    · obtain ⟨b, off, row, Ai, ci, rfl, hb, hx, hd, hc, hrd⟩ := (h.below hb0 (Nat.le_refl _)).at_ hlt
      obtain ⟨b', off', row', Ai', ci', rfl, hb', hx', hd', hc', hrd'⟩ := (h'.below hb0 (Nat.le_refl _)).at_ hlt
      have hr1 := HL1.out row (List.mem_of_getElem? hx)
      have hr2 := HL2.out row' (List.mem_of_getElem? hx')
      have HE := hid (fun (w1 : World) (q : Below wr.heap.size wr w1) => sameNums_any Ai Ai' row.length row'.length ci ci' row row' w1 hr1 hr2 ((hrd.below q hz).more (Nat.le_trans hz q.size)) ((hrd'.below q hz).more (Nat.le_trans hz q.size)))
      by_cases hxx : row = row'
      · have HZ : Hid (decide (rows.drop (k + 1) = rows'.drop (k + 1)) = decide (rows = rows')) := by
          show _ = _
          rw [← he.out, hd, hd', hxx]; simp
        have HT : Hid (decide (row = row') = true) := decide_eq_true hxx
        have HX := hid hX
        have HY := hid hY
        clear hx hx' hd hd' he h h' hb hb' hxx hrd hrd' hst hX hY hr1 hr2
        go_wp2
        go_still_tail 10, (by kernel_rfl)
        change wpList _ _ _ _ _ wr.drew
        have hb1 : Below w.heap.size w wr.drew := hb0.drew
        have hX1 := hid (HX.out.drew)
        have hY1 := hid (HY.out.drew)
        have hq : Below wr.heap.size wr wr.drew := (Below.refl _ _).drew
        have hzz : wr.heap.size = wr.drew.heap.size := rfl
        have HQ := hid hzz
        clear hzz x0 y0 hc hc' HX HY
        generalize wr.drew = w2 at *
        go_wp2_with (go_at_call 124; refine (HE.out _ hq).mono ?_; rw [HT.out]; rintro e w3 ⟨rfl, hb2⟩)
        have hzq := HQ.out
        have hxq : w.heap.size < w2.heap.size := hX1.out.lt
        have hyq : w.heap.size + 1 < w2.heap.size := hY1.out.lt
        go_roundw
        case rel => exact hid ⟨k + 1, by omega, by go_num, HZ, hX1.out.below hb2 hxq, hY1.out.below hb2 hyq, hb1.trans (hb2.mono (by omega))⟩
        case measure => simp [intOf]; omega
      · have HZ : Hid (decide (rows = rows') = false) := by
          show _ = _
          rw [← he.out, hd, hd']; simp [hxx]
        have HT : Hid (decide (row = row') = false) := decide_eq_false hxx
        clear hx hx' hd hd' he h h' hb hb' hxx hrd hrd' hst hX hY hr1 hr2
        go_wp2
        go_still_tail 10, (by kernel_rfl)
        change wpList _ _ _ _ _ wr.drew
        have hb1 : Below w.heap.size w wr.drew := hb0.drew
        have hq : Below wr.heap.size wr wr.drew := (Below.refl _ _).drew
        have hzz : wr.heap.size = wr.drew.heap.size := rfl
        have HQ := hid hzz
        clear hzz x0 y0 hc hc'
        generalize wr.drew = w2 at *
        go_wp2_with (go_at_call 124; refine (HE.out _ hq).mono ?_; rw [HT.out]; rintro e w3 ⟨rfl, hb2⟩)
        go_ret
        exact ⟨ret_bool HZ.out.symm, hb1.trans (hb2.mono (by have := HQ.out; omega))⟩
    · have HZ : Hid (decide (rows = rows') = true) := by
        show _ = _
        have e1 := h.len
        have e2 := h'.len
        rw [← he.out, List.drop_eq_nil_of_le (by omega), List.drop_eq_nil_of_le (by omega)]; rfl
      clear he hst h h' hX hY
      go_wp2
      go_ret
      exact ⟨ret_bool HZ.out.symm, hb0⟩
  · have HZ : Hid (decide (rows = rows') = false) := by
      show _ = _
      refine decide_eq_false fun e => hnn ?_
      rw [← hl1, ← hl2, e]
    clear hl1 hl2 h h' hl hl' hX hY hB hW HL1 HL2 W
    go_enter Try.func62, Try.ntmps62
    go_wp2
    go_ret
    exact ⟨ret_bool HZ.out.symm, (by repeat' (first | exact Below.refl _ _ | (with_reducible assumption) | (with_reducible refine Below.alloc ?_ ?_ _) | (with_reducible refine Below.setCell ?_ ?_ _) | (with_reducible refine Below.drew ?_) | (with_reducible refine below_drewN ?_ _) | (refine Below.trans ?_ (Below.mono (by assumption) ?_)) | (with_reducible exact Nat.le_refl _) | (with_reducible assumption) | (exact Below.size (by assumption)) | omega | go_size | (simp at *; omega)))⟩
end Go.Proofs.Ytlbhfjbbkkkldaa
