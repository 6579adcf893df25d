/- The text: Ns. -/
import Derived.Test.YtgphkfnobmponaaGreatG10
import Derived.Test.YtgphkfnobmponaaGreatG05
/- Plain facts on multiplex patterns: their form, where throws land, how texts are read. -/
namespace Go.Proofs.YtgphkfnobmponaaGreat
open Go.RowKit
set_option linter.unusedVariables false

/-- A throw of a beat of len throws, behind another one or none. -/
def stE (len : Nat) (prev : Option Int) (t : Int) : Bool := betweenB t 0 15 && !(t == 0 && decide (1 < len)) && (match prev with | none => true | some u => decide (t ≤ u))
theorem stE_def (len : Nat) (prev : Option Int) (t : Int) : stE len prev t = (betweenB t 0 15 && !(t == 0 && decide (1 < len)) && (match prev with | none => true | some u => decide (t ≤ u))) := rfl
def stPrev (row : List Int) (k : Nat) : Option Int := if k = 0 then none else row[k - 1]?
def stK (row : List Int) (k : Nat) : Bool := stE row.length (stPrev row k) (row.getD k 0)
def stAll (row : List Int) : Bool := (List.range row.length).all (stK row)
def mstOk (row : List Int) : Bool := betweenB (row.length : Int) 1 4 && stAll row
theorem stAll_iff {row : List Int} : stAll row = true ↔ ∀ k, k < row.length → stK row k = true := by simp [stAll]
theorem stK_at {row : List Int} {k : Nat} {t : Int} (h : row[k]? = some t) : stK row k = stE row.length (stPrev row k) t := by
  unfold stK
  rw [List.getD_eq_getElem?_getD, h]; rfl
theorem stAll_bad {row : List Int} {k : Nat} (hk : k < row.length) (h : stK row k = false) : stAll row = false := by
  cases hs : stAll row with
  | false => rfl
  | true => have := stAll_iff.1 hs k hk; rw [h] at this; cases this
theorem mstOk_iff {row : List Int} : mstOk row = true ↔ (1 ≤ row.length ∧ row.length ≤ 4) ∧ stAll row = true := by
  unfold mstOk
  rw [Bool.and_eq_true, betweenB_iff]
  have : (1 : Int) ≤ (row.length : Int) ∧ (row.length : Int) ≤ 4 ↔ 1 ≤ row.length ∧ row.length ≤ 4 := by omega
  rw [this]
theorem mstOk_bd {row : List Int} (h : mstOk row = true) {t : Int} (ht : t ∈ row) : 0 ≤ t ∧ t ≤ 15 := by
  obtain ⟨k, hk⟩ := List.getElem?_of_mem ht
  have h1 := stAll_iff.1 (mstOk_iff.1 h).2 k (List.getElem?_eq_some_iff.1 hk).1
  rw [stK_at hk, stE_def, Bool.and_eq_true, Bool.and_eq_true, betweenB_iff] at h1
  exact h1.1.1
def msSh (rows : List (List Int)) : Bool := betweenB (rows.length : Int) 1 12 && rows.all mstOk
theorem msSh_iff {rows : List (List Int)} : msSh rows = true ↔ (1 ≤ rows.length ∧ rows.length ≤ 12) ∧ ∀ r ∈ rows, mstOk r = true := by
  unfold msSh
  rw [Bool.and_eq_true, betweenB_iff, List.all_eq_true]
  have : (1 : Int) ≤ (rows.length : Int) ∧ (rows.length : Int) ≤ 12 ↔ 1 ≤ rows.length ∧ rows.length ≤ 12 := by omega
  rw [this]

/-- The beats where a row's throws land. -/
def mLnd (n i : Nat) (row : List Int) : List Nat := (row.filter fun t => decide (0 < t)).map fun t => (i + t.toNat) % n
def mLnds (n : Nat) : Nat → List (List Int) → List Nat
  | _, [] => []
  | i, r :: rs => mLnd n i r ++ mLnds n (i + 1) rs
theorem mLnds_append (n : Nat) : ∀ (l m : List (List Int)) (a : Nat), mLnds n a (l ++ m) = mLnds n a l ++ mLnds n (a + l.length) m := by
  intro l
  induction l with
  | nil => intro m a; rfl
  | cons x l ih =>
    intro m a
    rw [List.cons_append, mLnds, mLnds, ih, List.append_assoc, List.length_cons, show a + 1 + l.length = a + (l.length + 1) by omega]
theorem mLnds_step {n i : Nat} {rows : List (List Int)} {r : List Int} (h : rows[i]? = some r) : mLnds n 0 (rows.take (i + 1)) = mLnds n 0 (rows.take i) ++ mLnd n i r := by
  have hi := (List.getElem?_eq_some_iff.1 h).1
  rw [List.take_add_one, h, mLnds_append, List.length_take, Nat.min_eq_left (by omega), Nat.zero_add]
  show _ ++ (mLnd n i r ++ []) = _
  rw [List.append_nil]
theorem mLnd_step {n i k : Nat} {row : List Int} {t : Int} (h : row[k]? = some t) : mLnd n i (row.take (k + 1)) = mLnd n i (row.take k) ++ (if 0 < t then [(i + t.toNat) % n] else []) := by
  rw [List.take_add_one, h]
  unfold mLnd
  rw [List.filter_append, List.map_append]
  congr 1
  by_cases ht : 0 < t
  · rw [if_pos ht]; simp [ht]
  · rw [if_neg ht]; simp [ht]
theorem mLnd_len (n i : Nat) (row : List Int) : (mLnd n i row).length ≤ row.length := by
  unfold mLnd
  rw [List.length_map]
  exact List.length_filter_le _ _
theorem mLnds_len (n : Nat) : ∀ (rows : List (List Int)) (a : Nat), (∀ r ∈ rows, r.length ≤ 4) → (mLnds n a rows).length ≤ 4 * rows.length := by
  intro rows
  induction rows with
  | nil => intro a _; simp [mLnds]
  | cons r rs ih =>
    intro a h
    rw [mLnds, List.length_append, List.length_cons]
    have h1 := mLnd_len n a r
    have h2 := h r (by simp)
    have h3 := ih (a + 1) (fun x hx => h x (by simp [hx]))
    omega
/-- Cells that count the beats of a list. -/
def Ct (xs : List Value) (n : Nat) (L : List Nat) : Prop := xs.length = n ∧ ∀ x, x < n → xs[x]? = some (.int .i64 (L.count x : Int))
theorem Ct.start (n : Nat) : Ct (List.replicate n (.int .i64 0)) n [] := by
  refine ⟨by simp, fun x hx => ?_⟩
  rw [List.getElem?_replicate, if_pos hx]; rfl
theorem Ct.add {xs : List Value} {n y : Nat} {L : List Nat} {c : Int} (h : Ct xs n L) (hy : y < n) (hc : c = (L.count y : Int) + 1) : Ct (xs.set y (.int .i64 c)) n (L ++ [y]) := by
  refine ⟨by rw [List.length_set]; exact h.1, fun x hx => ?_⟩
  rw [List.getElem?_set]
  by_cases hxy : y = x
  · subst hxy
    rw [if_pos rfl, if_pos (by rw [h.1]; exact hx), hc]
    simp
  · rw [if_neg hxy, h.2 x hx, List.count_append]
    have : List.count x [y] = 0 := by simp [hxy]
    rw [this, Nat.add_zero]
theorem Ct.bd {n y : Nat} {L : List Nat} : L.count y ≤ L.length := List.count_le_length
def rLand (rows : List (List Int)) : List Int := (List.range rows.length).map fun i => ((mLnds rows.length 0 rows).count i : Int)
theorem rLand_at {rows : List (List Int)} {i : Nat} (h : i < rows.length) : (rLand rows)[i]? = some ((mLnds rows.length 0 rows).count i : Int) := by
  simp [rLand, h]
theorem Ct.all {xs : List Value} {rows : List (List Int)} {n : Nat} (hn : rows.length = n) (h : Ct xs n (mLnds n 0 rows)) : xs = ints (rLand rows) := by
  subst hn
  refine List.ext_getElem? fun i => ?_
  rcases Nat.lt_or_ge i rows.length with hi | hi
  · rw [h.2 i hi, ints, List.getElem?_map, rLand_at hi]; rfl
  · rw [List.getElem?_eq_none (by rw [h.1]; exact hi), List.getElem?_eq_none (by simp [ints, rLand]; exact hi)]
/-- How many props are thrown. -/
def thr (row : List Int) : Int := if row = [0] then 0 else row.length
theorem thr_zero {row : List Int} (h : mstOk row = true) (h0 : row[0]? = some 0) : thr row = 0 := by
  have h1 := stAll_iff.1 (mstOk_iff.1 h).2 0 (List.getElem?_eq_some_iff.1 h0).1
  rw [stK_at h0, stE_def, Bool.and_eq_true, Bool.and_eq_true] at h1
  have h2 : ¬ 1 < row.length := by
    have := h1.1.2
    simpa using this
  cases row with
  | nil => simp at h0
  | cons a r =>
    simp at h0
    subst h0
    cases r with
    | nil => rfl
    | cons b r => simp at h2
theorem thr_pos {row : List Int} {t : Int} (h0 : row[0]? = some t) (h : t ≠ 0) : thr row = row.length := by
  unfold thr
  rw [if_neg]
  intro e
  subst e
  simp at h0
  exact h h0.symm
theorem thr_len {row : List Int} (h : row.length ≠ 1) : thr row = row.length := by
  unfold thr
  rw [if_neg]
  intro e
  subst e
  simp at h
def mLn (rows : List (List Int)) (i : Nat) : Bool := ((mLnds rows.length 0 rows).count i : Int) == thr (rows.getD i [])
def mOk (rows : List (List Int)) : Bool := msSh rows && (List.range rows.length).all (mLn rows)
theorem mOk_iff {rows : List (List Int)} : mOk rows = true ↔ msSh rows = true ∧ ∀ i, i < rows.length → mLn rows i = true := by simp [mOk]
theorem mLn_at {rows : List (List Int)} {i : Nat} {r : List Int} (h : rows[i]? = some r) : mLn rows i = (((mLnds rows.length 0 rows).count i : Int) == thr r) := by
  unfold mLn
  rw [List.getD_eq_getElem?_getD, h]; rfl
theorem mOk_bad {rows : List (List Int)} {i : Nat} (hi : i < rows.length) (h : mLn rows i = false) : mOk rows = false := by
  cases hs : mOk rows with
  | false => rfl
  | true => have := (mOk_iff.1 hs).2 i hi; rw [h] at this; cases this
theorem mOk_sh {rows : List (List Int)} (h : msSh rows = false) : mOk rows = false := by rw [mOk, h]; rfl

/-- The beats of a text, whatever their throws. -/
def mprs : Option (List Int) → List UInt8 → Option (List (List Int))
  | none, [] => some []
  | some _, [] => none
  | none, c :: r => if c = 91 then mprs (some []) r else (mprs none r).map ([rDig (c.toNat : Int)] :: ·)
  | some l, c :: r => if c = 93 then (if l.length < 2 then none else (mprs none r).map (l :: ·)) else mprs (some (l ++ [rDig (c.toNat : Int)])) r
/-- What is still to be read, behind what has been. -/
def mpR (out : List (List Int)) (cur : Option (List Int)) (l : List UInt8) : Option (List (List Int)) := (mprs cur l).map (out ++ ·)
theorem mpR_start (l : List UInt8) : mpR [] none l = mprs none l := by unfold mpR; cases mprs none l <;> rfl
theorem mpR_end (out : List (List Int)) : mpR out none [] = some out := by simp [mpR, mprs]
theorem mpR_one {out : List (List Int)} {c : UInt8} {r : List UInt8} (h : c ≠ 91) : mpR out none (c :: r) = mpR (out ++ [[rDig (c.toNat : Int)]]) none r := by
  rw [mpR, mpR, mprs, if_neg h]
  cases mprs none r with
  | none => rfl
  | some q => simp
theorem mpR_open {out : List (List Int)} {r : List UInt8} : mpR out none (91 :: r) = mpR out (some []) r := by rw [mpR, mpR, mprs, if_pos rfl]
theorem mpR_more {out : List (List Int)} {l : List Int} {c : UInt8} {r : List UInt8} (h : c ≠ 93) : mpR out (some l) (c :: r) = mpR out (some (l ++ [rDig (c.toNat : Int)])) r := by rw [mpR, mpR, mprs, if_neg h]
theorem mpR_stop {out : List (List Int)} {l : List Int} : mpR out (some l) [] = none := rfl
theorem mpR_short {out : List (List Int)} {l : List Int} {r : List UInt8} (h : l.length < 2) : mpR out (some l) (93 :: r) = none := by rw [mpR, mprs, if_pos rfl, if_pos h]; rfl
theorem mpR_close {out : List (List Int)} {l : List Int} {r : List UInt8} (h : ¬ l.length < 2) : mpR out (some l) (93 :: r) = mpR (out ++ [l]) none r := by
  rw [mpR, mpR, mprs, if_pos rfl, if_neg h]
  cases mprs none r with
  | none => rfl
  | some q => simp
/-- The beats, if they are ones. -/
def shp : Option (List (List Int)) → Option (List (List Int))
  | some r => if msSh r then some r else none
  | none => none
def rdM (l : List UInt8) : Option (List (List Int)) := shp (mprs none l)
def mElse : Option (List (List Int)) → List (List Int) × Bool
  | some r => if mOk r then (r, true) else ([], false)
  | none => ([], false)
def rReadMulti (l : List UInt8) : List (List Int) × Bool := mElse (rdM l)
theorem shp_some (r : List (List Int)) : shp (some r) = if msSh r then some r else none := rfl
theorem shp_isSome (r : List (List Int)) : (shp (some r)).isSome = msSh r := by rw [shp_some]; cases msSh r <;> rfl
theorem shp_eq {r q : List (List Int)} (h : shp (some r) = some q) : q = r := by
  rw [shp_some] at h
  split at h
  · injection h with h; exact h.symm
  · cases h
theorem mElse_shp (r : List (List Int)) : mElse (shp (some r)) = if mOk r then (r, true) else ([], false) := by
  rw [shp_some]
  cases h : msSh r with
  | false => rw [mOk_sh h]; rfl
  | true => rfl
theorem mprs_neg : ∀ {s : List UInt8} {l : List Int} {rows : List (List Int)}, mprs (some l) s = some rows → (∃ x ∈ l, x < 0) → ∃ row ∈ rows, ∃ x ∈ row, x < 0 := by
  intro s
  induction s with
  | nil => intro l rows h; cases h
  | cons c r ih =>
    intro l rows h hx
    rw [mprs] at h
    split at h
    · split at h
      · cases h
      · rw [Option.map_eq_some_iff] at h
        obtain ⟨q, _, rfl⟩ := h
        exact ⟨l, by simp, hx⟩
    · obtain ⟨x, h1, h2⟩ := hx
      exact ih h ⟨x, by simp [h1], h2⟩
theorem shp_neg {rows : List (List Int)} {row : List Int} (hr : row ∈ rows) (hx : ∃ x ∈ row, x < 0) : shp (some rows) = none := by
  rw [shp_some, if_neg]
  intro h
  obtain ⟨x, h1, h2⟩ := hx
  have := mstOk_bd ((msSh_iff.1 h).2 row hr) h1
  omega
theorem shp_many {rows : List (List Int)} (h : 12 < rows.length) : shp (some rows) = none := by
  rw [shp_some, if_neg]
  intro hs
  have := (msSh_iff.1 hs).1
  omega
theorem mpR_neg {out : List (List Int)} {l : List Int} {s : List UInt8} (hx : ∃ x ∈ l, x < 0) : shp (mpR out (some l) s) = none := by
  unfold mpR
  cases h : mprs (some l) s with
  | none => rfl
  | some rows =>
    obtain ⟨row, h1, h2⟩ := mprs_neg h hx
    exact shp_neg (rows := out ++ rows) (row := row) (by simp [h1]) h2
theorem mpR_none_neg {out : List (List Int)} {c : UInt8} {s : List UInt8} (hc : c ≠ 91) (hx : rDig (c.toNat : Int) < 0) : shp (mpR out none (c :: s)) = none := by
  rw [mpR_one hc]
  unfold mpR
  cases h : mprs none s with
  | none => rfl
  | some rows => exact shp_neg (rows := (out ++ [[rDig (c.toNat : Int)]]) ++ rows) (row := [rDig (c.toNat : Int)]) (by simp) ⟨_, by simp, hx⟩
theorem mpR_many {out : List (List Int)} {cur : Option (List Int)} {s : List UInt8} (h : 12 < out.length) : shp (mpR out cur s) = none := by
  unfold mpR
  cases mprs cur s with
  | none => rfl
  | some rows => exact shp_many (rows := out ++ rows) (by simp; omega)
/-- The beat at the beginning of a text, and the rest. -/
def btIn : List Int → List UInt8 → Option (List Int × List UInt8)
  | _, [] => none
  | l, c :: r => if c = 93 then (if 1 < l.length then some (l, r) else none) else if rDig (c.toNat : Int) < 0 then none else btIn (l ++ [rDig (c.toNat : Int)]) r
def bt1 : List UInt8 → Option (List Int × List UInt8)
  | [] => none
  | c :: r => if c = 91 then btIn [] r else if rDig (c.toNat : Int) < 0 then none else some ([rDig (c.toNat : Int)], r)
theorem btIn_none {out : List (List Int)} : ∀ {s : List UInt8} {l : List Int}, btIn l s = none → shp (mpR out (some l) s) = none := by
  intro s
  induction s with
  | nil => intro l _; rfl
  | cons c r ih =>
    intro l h
    rw [btIn] at h
    by_cases hc : c = 93
    · subst hc
      rw [if_pos rfl] at h
      split at h
      · cases h
      · rw [mpR_short (by omega)]; rfl
    · rw [if_neg hc] at h
      rw [mpR_more hc]
      split at h
      · exact mpR_neg ⟨rDig (c.toNat : Int), by simp, by assumption⟩
      · exact ih h
theorem btIn_some {out : List (List Int)} : ∀ {s : List UInt8} {l b : List Int} {rest : List UInt8}, btIn l s = some (b, rest) → mpR out (some l) s = mpR (out ++ [b]) none rest ∧ rest.length < s.length ∧ b.length + rest.length < l.length + s.length := by
  intro s
  induction s with
  | nil => intro l b rest h; cases h
  | cons c r ih =>
    intro l b rest h
    rw [btIn] at h
    by_cases hc : c = 93
    · subst hc
      rw [if_pos rfl] at h
      split at h
      · injection h with h
        injection h with h1 h2
        subst h1 h2
        rw [mpR_close (by omega)]
        exact ⟨rfl, by simp, by simp⟩
      · cases h
    · rw [if_neg hc] at h
      rw [mpR_more hc]
      split at h
      · cases h
      · obtain ⟨h1, h2, h3⟩ := ih h
        rw [List.length_append, List.length_singleton] at h3
        exact ⟨h1, by rw [List.length_cons]; omega, by rw [List.length_cons]; omega⟩
theorem bt1_none {out : List (List Int)} {s : List UInt8} (hs : s ≠ []) (h : bt1 s = none) : shp (mpR out none s) = none := by
  cases s with
  | nil => exact absurd rfl hs
  | cons c r =>
    rw [bt1] at h
    by_cases hc : c = 91
    · subst hc
      rw [if_pos rfl] at h
      rw [mpR_open]
      exact btIn_none h
    · rw [if_neg hc] at h
      split at h
      · exact mpR_none_neg hc (by assumption)
      · cases h
theorem bt1_some {out : List (List Int)} {s rest : List UInt8} {b : List Int} (h : bt1 s = some (b, rest)) : mpR out none s = mpR (out ++ [b]) none rest ∧ rest.length < s.length ∧ b.length + rest.length ≤ s.length := by
  cases s with
  | nil => cases h
  | cons c r =>
    rw [bt1] at h
    by_cases hc : c = 91
    · subst hc
      rw [if_pos rfl] at h
      rw [mpR_open]
      obtain ⟨h1, h2, h3⟩ := btIn_some (out := out) h
      rw [List.length_nil] at h3
      exact ⟨h1, by rw [List.length_cons]; omega, by rw [List.length_cons]; omega⟩
    · rw [if_neg hc] at h
      split at h
      · cases h
      · injection h with h
        injection h with h1 h2
        subst h1 h2
        rw [mpR_one hc]
        exact ⟨rfl, by simp, by simp; omega⟩
end Go.Proofs.YtgphkfnobmponaaGreat
