/- Several texts in one: Mt, Na. -/
import Derived.Test.YtgphkfnobmponaaGreatNs
import Derived.Test.YtgphkfnobmponaaGreatQs
import Derived.Test.YtgphkfnobmponaaGreatG04
/- Plain facts: texts of multiplex patterns, read back. -/
namespace Go.Proofs.YtgphkfnobmponaaGreat
open Go.RowKit
set_option linter.unusedVariables false

/-- The text of a beat. -/
def rowT (r : List Int) : List UInt8 := if 1 < r.length then 91 :: (r.map hexU ++ [93]) else r.map hexU
def mT (rows : List (List Int)) : List UInt8 := rows.flatMap rowT
theorem mT_cons (r : List Int) (rows : List (List Int)) : mT (r :: rows) = rowT r ++ mT rows := rfl
theorem mT_snoc (rows : List (List Int)) (r : List Int) : mT (rows ++ [r]) = mT rows ++ rowT r := by simp [mT]
theorem mT_step {rows : List (List Int)} {k : Nat} {r : List Int} (h : rows[k]? = some r) : mT (rows.take (k + 1)) = mT (rows.take k) ++ rowT r := by
  rw [List.take_add_one, h]; exact mT_snoc _ _
theorem rowT_len (r : List Int) : (rowT r).length ≤ r.length + 2 := by
  unfold rowT
  split
  · simp
  · simp
theorem mT_len : ∀ rows : List (List Int), (∀ r ∈ rows, r.length ≤ 4) → (mT rows).length ≤ 6 * rows.length := by
  intro rows
  induction rows with
  | nil => intro _; simp [mT]
  | cons r rows ih =>
    intro h
    have h1 := rowT_len r
    have h2 := h r (by simp)
    have h3 := ih (fun x hx => h x (by simp [hx]))
    rw [mT_cons, List.length_append, List.length_cons]; omega
theorem mprs_in {l : List UInt8} : ∀ (q acc : List Int), (∀ t ∈ q, 0 ≤ t ∧ t ≤ 15) → mprs (some acc) (q.map hexU ++ 93 :: l) = if (acc ++ q).length < 2 then none else (mprs none l).map ((acc ++ q) :: ·) := by
  intro q
  induction q with
  | nil => intro acc _; rw [List.map_nil, List.nil_append, mprs, if_pos rfl, List.append_nil]
  | cons t q ih =>
    intro acc h
    obtain ⟨t0, t1⟩ := h t (by simp)
    have hne : hexU t ≠ 93 := hexU_ne t0 t1 (by decide)
    rw [List.map_cons, List.cons_append, mprs, if_neg hne, rDig_hexU t0 t1, ih _ (fun x hx => h x (by simp [hx])), List.append_assoc]; rfl
theorem mprs_row {r : List Int} (h : mstOk r = true) (l : List UInt8) : mprs none (rowT r ++ l) = (mprs none l).map (r :: ·) := by
  have h1 := (mstOk_iff.1 h).1
  have h2 : ∀ t ∈ r, 0 ≤ t ∧ t ≤ 15 := fun t ht => mstOk_bd h ht
  by_cases hl : 1 < r.length
  · rw [rowT, if_pos hl, List.cons_append, mprs, if_pos rfl, List.append_assoc, List.singleton_append, mprs_in r [] h2, List.nil_append, if_neg (by omega)]
  · obtain ⟨t, rfl⟩ : ∃ t, r = [t] := List.length_eq_one_iff.1 (by omega)
    obtain ⟨t0, t1⟩ := h2 t (by simp)
    have hne : hexU t ≠ 91 := hexU_ne t0 t1 (by decide)
    rw [rowT, if_neg hl, List.map_cons, List.map_nil, List.cons_append, List.nil_append, mprs, if_neg hne, rDig_hexU t0 t1]
theorem mprs_text : ∀ {rows : List (List Int)}, (∀ r ∈ rows, mstOk r = true) → mprs none (mT rows) = some rows := by
  intro rows
  induction rows with
  | nil => intro _; rfl
  | cons r rows ih =>
    intro h
    rw [mT_cons, mprs_row (h r (by simp)), ih (fun x hx => h x (by simp [hx]))]; rfl
theorem multi_there {rows : List (List Int)} (h : mOk rows = true) : rReadMulti (mT rows) = (rows, true) := by
  have hs := (mOk_iff.1 h).1
  rw [rReadMulti, rdM, mprs_text (msSh_iff.1 hs).2, mElse_shp, if_pos h]
theorem mprs_back : ∀ (s : List UInt8) (rows : List (List Int)), (∀ r ∈ rows, ∀ t ∈ r, 0 ≤ t) →
    (mprs none s = some rows → s = mT rows) ∧ (∀ l, mprs (some l) s = some rows → ∃ q rest, rows = (l ++ q) :: rest ∧ 1 < (l ++ q).length ∧ s = q.map hexU ++ 93 :: mT rest) := by
  intro s
  induction s with
  | nil =>
    intro rows hr
    refine ⟨fun h => ?_, fun l h => by cases h⟩
    injection h with h; subst h; rfl
  | cons c s ih =>
    intro rows hr
    refine ⟨fun h => ?_, fun l h => ?_⟩
    · rw [mprs] at h
      split at h
      · rename_i hc
        obtain ⟨q, rest, rfl, h2, h3⟩ := (ih rows hr).2 [] h
        rw [List.nil_append] at h2
        rw [List.nil_append, mT_cons, rowT, if_pos h2, hc, h3]; simp
      · rename_i hc
        rw [Option.map_eq_some_iff] at h
        obtain ⟨q, h1, rfl⟩ := h
        have h2 := (ih q (fun r h => hr r (by simp [h]))).1 h1
        have h3 := hr [rDig (c.toNat : Int)] (by simp) (rDig (c.toNat : Int)) (by simp)
        rw [mT_cons, rowT, if_neg (by simp), List.map_cons, List.map_nil, hexU_rDig c h3, ← h2]; rfl
    · rw [mprs] at h
      split at h
      · rename_i hc
        split at h
        · cases h
        · rename_i hl
          rw [Option.map_eq_some_iff] at h
          obtain ⟨q, h1, rfl⟩ := h
          have h2 := (ih q (fun r h => hr r (by simp [h]))).1 h1
          exact ⟨[], q, by simp, by simp; omega, by rw [hc, h2]; rfl⟩
      · rename_i hc
        obtain ⟨q, rest, h1, h2, h3⟩ := (ih rows hr).2 _ h
        have h4 := hr _ (by rw [h1]; exact List.mem_cons_self) (rDig (c.toNat : Int)) (by simp)
        refine ⟨rDig (c.toNat : Int) :: q, rest, by rw [h1, List.append_assoc]; rfl, by rw [List.append_assoc] at h2; exact h2, ?_⟩
        rw [List.map_cons, hexU_rDig c h4, h3]; rfl
theorem multi_back {s : List UInt8} {rows : List (List Int)} (h : rReadMulti s = (rows, true)) : mOk rows = true ∧ mT rows = s := by
  unfold rReadMulti rdM at h
  cases hp : mprs none s with
  | none => rw [hp] at h; cases h
  | some q =>
    rw [hp, mElse_shp] at h
    split at h
    · rename_i hq
      injection h with h _
      subst h
      have hb := (msSh_iff.1 (mOk_iff.1 hq).1).2
      exact ⟨hq, ((mprs_back s q (fun r hr t ht => (mstOk_bd (hb r hr) ht).1)).1 hp).symm⟩
    · injection h with _ h; cases h
theorem mT_ne {rows : List (List Int)} (h : mOk rows = true) : mT rows ≠ [] := by
  have hs := msSh_iff.1 (mOk_iff.1 h).1
  cases rows with
  | nil => have := hs.1.1; simp at this
  | cons r rows =>
    have h1 := (mstOk_iff.1 (hs.2 r (by simp))).1.1
    rw [mT_cons]
    intro e
    have := congrArg List.length e
    rw [List.length_append] at this
    have h2 : 1 ≤ (rowT r).length := by
      unfold rowT
      split
      · simp
      · simpa using h1
    rw [List.length_nil] at this
    omega
end Go.Proofs.YtgphkfnobmponaaGreat

/- Contracts of the functions that check multiplex patterns: isStack, areStacks, landingCounts, thrown, ValidMulti. -/
namespace Go.Proofs.YtgphkfnobmponaaGreat
open Go.RowKit
set_option linter.unusedVariables false

theorem allm_step {α : Type} {f : α → Bool} {p : List α} {k : Nat} {x : α} {R : Bool} (he : (p.drop k).all f = R) (hd : p.drop k = x :: p.drop (k + 1)) (h : f x = true) : (p.drop (k + 1)).all f = R := by
  rw [hd, List.all_cons, h, Bool.true_and] at he; exact he
theorem allm_stop {α : Type} {f : α → Bool} {p : List α} {k : Nat} {x : α} {R : Bool} (he : (p.drop k).all f = R) (hd : p.drop k = x :: p.drop (k + 1)) (h : f x = false) : R = false := by
  rw [hd, List.all_cons, h, Bool.false_and] at he; exact he.symm
theorem stK_next {row : List Int} {k : Nat} (h : ∀ j, j < k → stK row j = true) (hk : stK row k = true) : ∀ j, j < k + 1 → stK row j = true := fun j hj => by
  rcases Nat.lt_or_eq_of_le (Nat.le_of_lt_succ hj) with h1 | h1
  · exact h j h1
  · subst h1; exact hk
theorem mstOk_badk {row : List Int} {k : Nat} (hk : k < row.length) (h : stK row k = false) : mstOk row = false := by rw [mstOk, stAll_bad hk h, Bool.and_false]
theorem stE_bet {n : Nat} {p : Option Int} {x : Int} (h : betweenB x 0 15 = false) : stE n p x = false := by rw [stE_def, h]; rfl
theorem stE_zero {n : Nat} {p : Option Int} (h : 1 < n) : stE n p 0 = false := by simp [stE_def, h]
theorem stE_first {n : Nat} {x : Int} (h : betweenB x 0 15 = true) (h0 : x ≠ 0 ∨ ¬ 1 < n) : stE n none x = true := by
  rw [stE_def, h]; rcases h0 with h0 | h0 <;> simp [h0]
theorem stE_next {n : Nat} {x y : Int} (h : betweenB x 0 15 = true) (h0 : x ≠ 0) : stE n (some y) x = decide (x ≤ y) := by
  rw [stE_def, h]; simp [h0]
theorem isStack_any (A : Option Addr) (n c : Nat) (row : List Int) (w : World) (hn : n ≤ 1099511627776) (hr : Rd w w.heap.size 1 A n (ints row)) :
    Calls Tryz.prog 133 #[.slice A n c] w fun e w' => e = .returned (.bool (mstOk row)) ∧ w = w' := by
  have hlen := hr.len
  have HR := hid hr
  have HL := hid hlen
  have HBAD := hid (fun (k : Nat) (hk : k < n) (h : stK row k = false) => mstOk_badk (row := row) (by omega) h)
  clear hr hlen
  go_enter Tryz.func133, Tryz.ntmps133
  go_wp2
  go_loop [7] (fun i => Hid (∃ k : Nat, k ≤ n ∧ i = .int .i64 k ∧ Hid (∀ j, j < k → stK row j = true))) (fun i => n - (intOf i).toNat)
  case atStart => exact hid ⟨0, Nat.zero_le _, rfl, hid (fun j h => absurd h (by omega))⟩
  case round =>
    obtain ⟨k, hk, rfl, he⟩ := hrel.out
    clear hrel
    by_cases hlt : k < n
    · obtain ⟨b, off, x, rfl, hb, hx, hd, hc⟩ := HR.out.at_ hlt
      have hE : Hid (stK row k = stE n (stPrev row k) x) := by show _ = _; rw [stK_at hx, HL.out]
      have hB0 := hid (fun w1 => between_any x 0 15 w1)
      cases hbt : betweenB x 0 15 with
      | false =>
        have HZ : Hid (mstOk row = false) := HBAD.out k hlt (by rw [hE.out]; exact stE_bet hbt)
        have hB := hid (fun w1 => by have := hB0.out w1; rw [hbt] at this; exact this)
        clear hbt hx hd he HBAD hb
        go_wp2_with (go_at_call 55; refine (hB.out _).mono ?_; rintro e w' ⟨rfl, rfl⟩)
        go_ret
        exact ⟨ret_bool HZ.out.symm, rfl⟩
      | true =>
        have hB := hid (fun w1 => by have := hB0.out w1; rw [hbt] at this; exact this)
        have HG := hid (fun (h : stK row k = true) => stK_next he.out h)
        by_cases h0 : x = 0
        · by_cases h1 : 1 < n
          · have HZ : Hid (mstOk row = false) := HBAD.out k hlt (by rw [hE.out, h0]; exact stE_zero h1)
            subst h0
            have h1I : (1 : Int) < (n : Int) := by omega
            clear hbt hx hd he HBAD hb HG hE hB0
            go_wp2_with (go_at_call 55; refine (hB.out _).mono ?_; rintro e w' ⟨rfl, rfl⟩)
            go_ret
            exact ⟨ret_bool HZ.out.symm, rfl⟩
          · obtain rfl : k = 0 := by omega
            rw [Nat.add_zero] at hc
            have HZ := hid (HG.out (by rw [hE.out]; exact stE_first hbt (.inr h1)))
            subst h0
            have h1I : ¬ (1 : Int) < (n : Int) := by omega
            clear hbt hx hd he HBAD hb HG hE hB0
            go_wp2_with (go_at_call 55; refine (hB.out _).mono ?_; rintro e w' ⟨rfl, rfl⟩)
            go_round
            case rel => exact hid ⟨0 + 1, by omega, by go_num, HZ⟩
            case measure => simp [intOf]; omega
        · have hq : (x == 0) = false := by simpa using h0
          rcases Nat.eq_zero_or_pos k with hk0 | hk0
          · subst hk0
            rw [Nat.add_zero] at hc
            have HZ := hid (HG.out (by rw [hE.out]; exact stE_first hbt (.inl h0)))
            clear hbt hx hd he HBAD hb HG hE hB0 h0
            go_wp2_with (go_at_call 55; refine (hB.out _).mono ?_; rintro e w' ⟨rfl, rfl⟩)
            go_round
            case rel => exact hid ⟨0 + 1, by omega, by go_num, HZ⟩
            case measure => simp [intOf]; omega
          · obtain ⟨m, rfl⟩ : ∃ m, k = m + 1 := ⟨k - 1, by omega⟩
            obtain ⟨b', off', y, hA', hb', hy, hd', hc'⟩ := HR.out.at_ (show m < n by omega)
            injection hA' with hA'
            injection hA' with e1 e2
            subst e1 e2
            have hE2 : Hid (stK row (m + 1) = decide (x ≤ y)) := by
              show _ = _
              rw [hE.out, show stPrev row (m + 1) = some y from hy]; exact stE_next hbt h0
            have hm : IntKind.i64.wrap (((m + 1 : Nat) : Int) - 1) = (m : Int) := by rw [show ((m + 1 : Nat) : Int) - 1 = (m : Int) by omega]; exact IntWalk.i64_in (m : Int) (by omega)
            have hpos : (0 : Int) < ((m + 1 : Nat) : Int) := by omega
            have hmn : (m : Int) < (n : Int) := by omega
            by_cases hle : x ≤ y
            · have HZ := hid (HG.out (by rw [hE2.out]; simpa using hle))
              have hng : ¬ y < x := by omega
              clear hbt hx hd he HBAD hb HG hE hB0 h0 hd' hy hb' hE2 hle
              go_wp2_with (go_at_call 55; refine (hB.out _).mono ?_; rintro e w' ⟨rfl, rfl⟩)
              go_round
              case rel => exact hid ⟨m + 1 + 1, by omega, by go_num, HZ⟩
              case measure => simp [intOf]; omega
            · have HZ : Hid (mstOk row = false) := HBAD.out (m + 1) hlt (by rw [hE2.out]; simpa using hle)
              have hng : y < x := by omega
              clear hbt hx hd he HBAD hb HG hE hB0 h0 hd' hy hb' hE2 hle
              go_wp2_with (go_at_call 55; refine (hB.out _).mono ?_; rintro e w' ⟨rfl, rfl⟩)
              go_ret
              exact ⟨ret_bool HZ.out.symm, rfl⟩
    · have HZ : Hid (mstOk row = betweenB (n : Int) 1 4) := by
        show _ = _
        have hl := HL.out
        rw [mstOk, stAll_iff.2 (fun j hj => he.out j (by omega)), Bool.and_true, hl]
      have hB := hid (fun w1 => between_any (n : Int) 1 4 w1)
      clear he HBAD
      go_wp2_with (go_at_call 55; refine (hB.out _).mono ?_; rintro e w' ⟨rfl, rfl⟩)
      go_ret
      exact ⟨ret_bool HZ.out.symm, rfl⟩
theorem areStacks_any (A : Option Addr) (n c : Nat) (rows : List (List Int)) (w : World) (hn : n ≤ 1099511627776) (hl : ∀ r ∈ rows, r.length ≤ 1099511627776) (hr : RdG w w.heap.size A n rows) :
    Calls Tryz.prog 99 #[.slice A n c] w fun e w' => e = .returned (.bool (msSh rows)) ∧ w = w' := by
  have hlen := hr.len
  obtain ⟨R, hR⟩ : ∃ R, (rows.drop 0).all mstOk = R := ⟨_, rfl⟩
  have hth : Hid (msSh rows = (betweenB (n : Int) 1 12 && R)) := by show _ = _; rw [← hR, ← hlen]; rfl
  have hR := hid hR
  have HR := hid hr
  have HL := hid hlen
  have HLL := hid hl
  clear hr hlen hl
  go_enter Tryz.func99, Tryz.ntmps99
  go_wp2
  go_loop [7] (fun i => Hid (∃ k : Nat, k ≤ n ∧ i = .int .i64 k ∧ Hid ((rows.drop k).all mstOk = R))) (fun i => n - (intOf i).toNat)
  case atStart => exact hid ⟨0, Nat.zero_le _, rfl, hR⟩
  case round =>
    obtain ⟨k, hk, rfl, he⟩ := hrel.out
    clear hrel
    by_cases hlt : k < n
    · obtain ⟨b, off, row, Ai, ci, rfl, hb, hx, hd, hc, hrow⟩ := HR.out.at_ hlt
      have hC := isStack_any Ai row.length ci row w (HLL.out row (List.mem_of_getElem? hx)) hrow
      cases hs : mstOk row with
      | false =>
        have HZ : Hid (msSh rows = false) := by show _ = _; rw [hth.out, allm_stop he.out hd hs, Bool.and_false]
        rw [hs] at hC
        have hC := hid hC
        clear hrow hx hd hs he hth hR hb
        go_wp2_with (go_at_call 133; refine (hC.out).mono ?_; rintro e w' ⟨rfl, rfl⟩)
        go_ret
        exact ⟨ret_bool HZ.out.symm, rfl⟩
      | true =>
        have HZ := hid (allm_step he.out hd hs)
        rw [hs] at hC
        have hC := hid hC
        clear hrow hx hd hs he hth hR hb
        go_wp2_with (go_at_call 133; refine (hC.out).mono ?_; rintro e w' ⟨rfl, rfl⟩)
        go_round
        case rel => exact hid ⟨k + 1, by omega, by go_num, HZ⟩
        case measure => simp [intOf]; omega
    · have HZ : Hid (msSh rows = betweenB (n : Int) 1 12) := by
        show _ = _
        have h1 := he.out
        rw [List.drop_eq_nil_of_le (by rw [HL.out]; omega)] at h1
        rw [hth.out, ← h1]; simp
      have hB := hid (fun w1 => between_any (n : Int) 1 12 w1)
      clear he hth hR
      go_wp2_with (go_at_call 55; refine (hB.out _).mono ?_; rintro e w' ⟨rfl, rfl⟩)
      go_ret
      exact ⟨ret_bool HZ.out.symm, rfl⟩
set_option maxHeartbeats 1000000 in
theorem landingCounts_any (A : Option Addr) (n c : Nat) (rows : List (List Int)) (w : World) (hp : msSh rows = true) (hr : RdG w w.heap.size A n rows) :
    Calls Tryz.prog 100 #[.slice A n c] w fun e w' => ∃ B c', e = .returned (.slice B n c') ∧ w'.ownsRow w.heap.size 2 1 (.slice B n c') n (ints (rLand rows)) ∧ Below w.heap.size w w' := by
  have hlen := hr.len
  obtain ⟨⟨h1, h12⟩, hst⟩ := msSh_iff.1 hp
  rw [hlen] at h1 h12
  have HR := hid hr
  have HST := hid hst
  have hCt := hid (Ct.start n)
  have hC0 : Hid (([] : List Nat) = mLnds n 0 (rows.take 0)) := rfl
  have hAll := hid (fun (xs : List Value) (h : Ct xs n (mLnds n 0 rows)) => h.all hlen)
  have HL := hid hlen
  have hcnt := hid (fun (k : Nat) (row : List Int) (hx : rows[k]? = some row) (j y : Nat) => show ((mLnds n 0 (rows.take k) ++ mLnd n k (row.take j)).count y : Int) + 1 ≤ 100 from by
    have a1 := Ct.bd (L := mLnds n 0 (rows.take k) ++ mLnd n k (row.take j)) (n := 0) (y := y)
    have a2 := mLnds_len n (rows.take k) 0 (fun r hr => (mstOk_iff.1 (hst r (List.mem_of_mem_take hr))).1.2)
    have a3 := mLnd_len n k (row.take j)
    have a4 := (mstOk_iff.1 (hst row (List.mem_of_getElem? hx))).1.2
    rw [List.length_append] at a1
    rw [List.length_take] at a2 a3
    omega)
  clear hr hlen hst hp
  go_enter Tryz.func100, Tryz.ntmps100
  go_wp2_with (at_make; refine make_own w.heap.size Tryz.underlying24 inf_int rfl rfl _ _ rfl .i64 .i64 n rfl rfl (by omega) (by omega) (Nat.le_refl _) ?_; intro w2 ho2 hb2 hz2)
  go_loopw [15] (fun i wr => Hid (∃ (k : Nat) (xs : List Value), i = .int .i64 k ∧ k ≤ n ∧ Hid (Ct xs n (mLnds n 0 (rows.take k))) ∧ wr.ownsRow w.heap.size 2 1 (.slice (some ⟨w.heap.size, 0, none⟩) n n) n xs ∧ Below w.heap.size w wr)) (fun i _ => n - (intOf i).toNat)
  case atStart => exact hid ⟨0, _, rfl, by omega, by rw [← hC0.out]; exact hCt, ho2, hb2⟩
  case round =>
    clear hCt hC0 ho2 hb2 hz2
    obtain ⟨k, xs, rfl, hk, hT, ho, hb0⟩ := hrel.out
    clear hrel
    by_cases hlt : k < n
    · obtain ⟨b, off, row, Ai, ci, rfl, hb, hx, hd, hc, hrow⟩ := HR.out.at_ hlt
      have hcr : wr.cell? ⟨b, off + k, none⟩ = some (.slice Ai row.length ci) := (hb0.cell (p := ⟨b, off + k, none⟩) hb).trans hc
      have hbw : b < wr.heap.size := by have := hb0.size; omega
      have hst2 := HST.out row (List.mem_of_getElem? hx)
      have hl4 := (mstOk_iff.1 hst2).1.2
      have HX : Hid (mLnds n 0 (rows.take (k + 1)) = mLnds n 0 (rows.take k) ++ mLnd n k row) := mLnds_step hx
      have HT0 : Hid (Ct xs n (mLnds n 0 (rows.take k) ++ mLnd n k (row.take 0))) := by show Ct _ _ (_ ++ []); rw [List.append_nil]; exact hT.out
      have HC := hid (hcnt.out k row hx)
      have HS2 := hid (fun (x : Int) (hx : x ∈ row) => mstOk_bd hst2 hx)
      have HTE : Hid (row.take row.length = row) := List.take_of_length_le (Nat.le_refl _)
      have HROW := hid hrow
      generalize mLnds n 0 (rows.take k) = L0 at *
      clear hT hx hd hc hrow hst2 hcnt HST
      go_wp2
      go_loopw [22] (fun i wr => Hid (∃ (j : Nat) (xs : List Value), i = .int .i64 j ∧ j ≤ row.length ∧ Hid (Ct xs n (L0 ++ mLnd n k (row.take j))) ∧ wr.ownsRow w.heap.size 2 1 (.slice (some ⟨w.heap.size, 0, none⟩) n n) n xs ∧ Below w.heap.size w wr)) (fun i _ => row.length - (intOf i).toNat)
      case atStart => exact hid ⟨0, xs, rfl, by omega, HT0, ho, hb0⟩
      case round =>
        clear HT0 ho hb0 hcr hbw xs
        obtain ⟨j, xs, rfl, hj, hT, ho, hb0⟩ := hrel.out
        clear hrel
        by_cases hjl : j < row.length
        · obtain ⟨bb, offb, x, rfl, hbb, hxj, hdj, hcj⟩ := (HROW.out.below hb0 (Nat.le_refl _)).at_ hjl
          obtain ⟨x0, x15⟩ := HS2.out x (List.mem_of_getElem? hxj)
          have hbbw : bb < wr.heap.size := by have := hb0.size; omega
          have HS := hid (mLnd_step (n := n) (i := k) hxj)
          clear hxj hdj
          by_cases hx0 : 0 < x
          · obtain ⟨X, rfl⟩ := Int.eq_ofNat_of_zero_le x0
            obtain ⟨M, hM⟩ : ∃ M, (k + X) % n = M := ⟨_, rfl⟩
            have hMn : M < n := by rw [← hM]; exact Nat.mod_lt _ (by omega)
            have hmod : ((k : Int) + (X : Int)).tmod (n : Int) = (M : Int) := by
              rw [Int.tmod_eq_emod_of_nonneg (by omega), ← hM, Int.natCast_emod, Int.natCast_add]
            have ca := ho.cellAt M (by omega)
            rw [hT.out.2 M hMn] at ca
            have hcb := HC.out j M
            have hT2 := hid (hT.out.add (y := M) hMn rfl)
            have fa := ho.frozenAt M
            obtain ⟨ho5, _⟩ := ho.stored M (.int .i64 (((L0 ++ mLnd n k (row.take j)).count M : Int) + 1))
            have HT3 : Hid (Ct (xs.set M (.int .i64 (((L0 ++ mLnd n k (row.take j)).count M : Int) + 1))) n (L0 ++ mLnd n k (row.take (j + 1)))) := by
              rw [HS.out, if_pos hx0, Int.toNat_natCast, hM, ← List.append_assoc]; exact hT2
            have hc0 : (0 : Int) ≤ ((L0 ++ mLnd n k (row.take j)).count M : Int) := by omega
            generalize (((L0 ++ mLnd n k (row.take j)).count M : Nat) : Int) = C at *
            have HO5 := hid ho5
            clear hT hT2 hM HS ho5 ho
            go_wp2
            go_roundw
            case rel => exact hid ⟨j + 1, _, by go_num, by omega, HT3, HO5.out, (by repeat' (first | exact Below.refl _ _ | (with_reducible first | assumption | exact Nat.le_refl _ | refine Below.alloc ?_ ?_ _ | refine Below.setCell ?_ ?_ _ | refine Below.drew ?_ | refine below_drewN ?_ _) | refine Below.trans ?_ (Below.mono (by assumption) ?_) | exact Below.size (by assumption) | omega | go_size | (simp at *; omega)))⟩
            case measure => simp [intOf]; omega
          · have HT3 : Hid (Ct xs n (L0 ++ mLnd n k (row.take (j + 1)))) := by rw [HS.out, if_neg hx0, List.append_nil]; exact hT
            clear hT HS
            go_wp2
            go_roundw
            case rel => exact hid ⟨j + 1, _, by go_num, by omega, HT3, ho, hb0⟩
            case measure => simp [intOf]; omega
        · have HT3 : Hid (Ct xs n (mLnds n 0 (rows.take (k + 1)))) := by rw [HX.out]; have := hT.out; rw [show j = row.length by omega, HTE.out] at this; exact this
          clear hT
          go_wp2
          go_roundw
          case rel => exact hid ⟨k + 1, xs, by go_num, by omega, HT3, ho, hb0⟩
          case measure => simp [intOf]; omega
    · have HZ := hAll.out xs (by have := hT.out; rw [List.take_of_length_le (by rw [HL.out]; omega)] at this; exact this)
      subst HZ
      clear hT
      go_wp2
      go_ret
      exact ⟨_, _, rfl, ho, hb0⟩
theorem thrown_any (A : Option Addr) (n c : Nat) (row : List Int) (w : World) (hp : mstOk row = true) (hr : Rd w w.heap.size 1 A n (ints row)) :
    Calls Tryz.prog 101 #[.slice A n c] w fun e w' => e = .returned (.int .i64 (thr row)) ∧ w = w' := by
  have hlen := hr.len
  have h1 := (mstOk_iff.1 hp).1
  rw [hlen] at h1
  obtain ⟨b, off, x, rfl, hb, hx, hd, hc⟩ := hr.at_ (show 0 < n by omega)
  rw [Nat.add_zero] at hc
  by_cases h0 : x = 0
  · subst h0
    have HZ := hid (thr_zero hp hx)
    clear hr hx hd hp hlen
    go_enter Tryz.func101, Tryz.ntmps101
    go_wp2
    go_ret
    exact ⟨ret_int HZ.out.symm, rfl⟩
  · have HZ : Hid (thr row = (n : Int)) := by show _ = _; rw [thr_pos hx h0, hlen]
    have hq : (x == 0) = false := by simpa using h0
    clear hr hx hd hp hlen h0
    go_enter Tryz.func101, Tryz.ntmps101
    go_wp2
    go_ret
    exact ⟨ret_int HZ.out.symm, rfl⟩
set_option maxHeartbeats 1000000 in
theorem ValidMulti_any (A : Option Addr) (n c : Nat) (rows : List (List Int)) (w : World) (hn : n ≤ 1099511627776) (hl : ∀ r ∈ rows, r.length ≤ 1099511627776) (hr : RdG w w.heap.size A n rows) :
    Calls Tryz.prog 59 #[.agg #[.slice A n c]] w fun e w' => e = .returned (.bool (mOk rows)) ∧ Below w.heap.size w w' := by
  have hlen := hr.len
  have hbx : Below w.heap.size w (w.alloc (Obj.cells #[.slice A n c] 27)) := (by repeat' (first | exact Below.refl _ _ | (with_reducible first | assumption | exact Nat.le_refl _ | refine Below.alloc ?_ ?_ _ | refine Below.setCell ?_ ?_ _ | refine Below.drew ?_ | refine below_drewN ?_ _) | refine Below.trans ?_ (Below.mono (by assumption) ?_) | exact Below.size (by assumption) | omega | go_size | (simp at *; omega)))
  have hr1 := (hr.below hbx (Nat.le_refl _)).more hbx.size
  have hC := areStacks_any A n c rows _ hn hl hr1
  have hX := Bx.new w 27 #[.slice A n c]
  cases hp : msSh rows with
  | false =>
    rw [hp] at hC
    have hC := hid hC
    have HZ := hid (mOk_sh hp)
    clear hr hr1 hp hlen hX hl
    go_enter Tryz.func59, Tryz.ntmps59
    go_wp2_with (go_at_call 99; refine (hC.out).mono ?_; rintro e w' ⟨rfl, rfl⟩)
    go_ret
    exact ⟨ret_bool HZ.out.symm, (by repeat' (first | exact Below.refl _ _ | (with_reducible first | assumption | exact Nat.le_refl _ | refine Below.alloc ?_ ?_ _ | refine Below.setCell ?_ ?_ _ | refine Below.drew ?_ | refine below_drewN ?_ _) | refine Below.trans ?_ (Below.mono (by assumption) ?_) | exact Below.size (by assumption) | omega | go_size | (simp at *; omega)))⟩
  | true =>
    rw [hp] at hC
    have hC := hid hC
    have hD := hid (landingCounts_any A n c rows _ hp hr1)
    have hc0 := hX.cell 0
    replace hc0 : (w.alloc (Obj.cells #[.slice A n c] 27)).cell? ⟨w.heap.size, 0, none⟩ = some (.slice A n c) := hc0
    have hs1 : (w.alloc (Obj.cells #[.slice A n c] 27)).heap.size = w.heap.size + 1 := by simp
    obtain ⟨⟨h1, h12⟩, hst⟩ := msSh_iff.1 hp
    rw [hlen] at h1 h12
    have HST := hid hst
    have HR := hid hr
    have HX := hid hX
    have hAt := hid (fun (i : Nat) (hi : i < n) => show (ints (rLand rows))[i]? = some (.int .i64 ((mLnds n 0 rows).count i : Int)) from by rw [ints, List.getElem?_map, rLand_at (by omega), hlen]; rfl)
    have hMl := hid (fun (i : Nat) (row : List Int) (hi : rows[i]? = some row) => show mLn rows i = (((mLnds n 0 rows).count i : Int) == thr row) from by rw [mLn_at hi, hlen])
    have hBad := hid (fun (i : Nat) (hi : i < n) (h : mLn rows i = false) => mOk_bad (by omega) h)
    have hGood := hid (fun (h : ∀ i, i < n → mLn rows i = true) => mOk_iff.2 ⟨hp, fun i hi => h i (by omega)⟩)
    have hcnt := hid (fun (i : Nat) => show ((mLnds n 0 rows).count i : Int) ≤ 100 from by
      have a1 := Ct.bd (L := mLnds n 0 rows) (n := 0) (y := i)
      have a2 := mLnds_len n rows 0 (fun r hr => (mstOk_iff.1 (hst r hr)).1.2)
      omega)
    clear hr hr1 hp hlen hX hl hst
    go_enter Tryz.func59, Tryz.ntmps59
    go_wp2_with (first | (go_at_call 99; refine (hC.out).mono ?_; rintro e w' ⟨rfl, rfl⟩) | (go_at_call 100; refine hD.out.mono ?_; rintro e w1 ⟨B, c1, rfl, ho1, hb1⟩))
    have hB1 : Below w.heap.size w w1 := hbx.trans (hb1.mono (by omega))
    have hX1 := HX.out.below hb1 (by omega)
    have hc1 := hX1.cell 0
    replace hc1 : w1.cell? ⟨w.heap.size, 0, none⟩ = some (.slice A n c) := hc1
    have hRo := Rd.of_own ho1
    have HRo := hid hRo
    clear hC hD ho1 hb1 hX1 hRo hc0 HX
    go_loopw [13] (fun i wr => Hid (∃ k : Nat, i = .int .i64 k ∧ k ≤ n ∧ Hid (∀ j, j < k → mLn rows j = true) ∧ wr = w1)) (fun i _ => n - (intOf i).toNat)
    case atStart => exact hid ⟨0, rfl, by omega, hid (fun j h => absurd h (by omega)), rfl⟩
    case round =>
      obtain ⟨k, rfl, hk, he, rfl⟩ := hrel.out
      clear hrel
      by_cases hlt : k < n
      · obtain ⟨b, off, row, Ai, ci, rfl, hb, hx, hd, hc, hrow⟩ := (HR.out.below hB1 (Nat.le_refl _)).at_ hlt
        obtain ⟨b', off', rfl, hb', hc'⟩ := HRo.out.2 (by omega)
        have hck := hc' k _ (hAt.out k hlt)
        have hT := hid (thrown_any Ai row.length ci row wr (HST.out row (List.mem_of_getElem? hx)) (hrow.more hB1.size))
        have HM := hid (hMl.out k row hx)
        have hcn := hcnt.out k
        have hbw : b < wr.heap.size := by have := hB1.size; omega
        generalize (((mLnds n 0 rows).count k : Nat) : Int) = C at *
        generalize thr row = T at *
        by_cases hCT : C = T
        · have HZ := hid (fun (j : Nat) (hj : j < k + 1) => show mLn rows j = true from by
            rcases Nat.lt_or_eq_of_le (Nat.le_of_lt_succ hj) with h1 | h1
            · exact he.out j h1
            · subst h1; rw [HM.out, hCT]; simp)
          subst hCT
          clear he HM hx hd hrow hc' hAt hMl hBad hcn
          go_wp2_with (go_at_call 101; refine (hT.out).mono ?_; rintro e w' ⟨rfl, rfl⟩)
          go_roundw
          case rel => exact hid ⟨k + 1, by go_num, by omega, HZ, by first | rfl | trivial⟩
          case measure => simp [intOf]; omega
        · have hq : (C == T) = false := by simpa using hCT
          have HZ := hid (hBad.out k hlt (by rw [HM.out]; exact hq))
          clear he HM hx hd hrow hc' hAt hMl hBad hcn hCT
          go_wp2_with (go_at_call 101; refine (hT.out).mono ?_; rintro e w' ⟨rfl, rfl⟩)
          go_ret
          exact ⟨ret_bool HZ.out.symm, hB1⟩
      · have HZ := hid (hGood.out (fun j hj => he.out j (by omega)))
        clear he
        go_wp2
        go_ret
        exact ⟨ret_bool HZ.out.symm, hB1⟩
end Go.Proofs.YtgphkfnobmponaaGreat
