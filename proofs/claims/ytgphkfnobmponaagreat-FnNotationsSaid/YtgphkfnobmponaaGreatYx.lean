/- The text: Yx. -/
import Derived.Test.YtgphkfnobmponaaGreatG10
import Derived.Test.YtgphkfnobmponaaGreatG14
/- Plain facts: texts of synchronous patterns, read back. Nothing of the program is named here but hexB, rDig. -/
namespace Go.Proofs.YtgphkfnobmponaaGreat
open Go.RowKit
set_option linter.unusedVariables false

/-- The text of a throw. -/
def thT (t : Thr) : List UInt8 := hexU t.1 :: (if t.2 then [120] else [])
def btT (b : Beat) : List UInt8 := 40 :: (thT b.1 ++ 44 :: (thT b.2 ++ [41]))
def syT (p : List Beat) : List UInt8 := p.flatMap btT
theorem syT_cons (b : Beat) (p : List Beat) : syT (b :: p) = btT b ++ syT p := rfl
theorem syT_snoc (p : List Beat) (b : Beat) : syT (p ++ [b]) = syT p ++ btT b := by simp [syT]
/-- The throw of a text. -/
def rdT (l : List UInt8) : Option Thr := match l with
  | [c] => if thrOk (rDig (c.toNat : Int), false) then some (rDig (c.toNat : Int), false) else none
  | [c, x] => if x = 120 then (if thrOk (rDig (c.toNat : Int), true) then some (rDig (c.toNat : Int), true) else none) else none
  | _ => none
theorem thrOk_neg {c : Bool} : thrOk (-1, c) = false := by
  cases h : thrOk (-1, c) with
  | false => rfl
  | true => have := (thrOk_iff.1 h).1.1; simp at this
theorem rdT_th {t : Thr} (h : thrOk t = true) : rdT (thT t) = some t := by
  obtain ⟨h1, _, _⟩ := thrOk_iff.1 h
  obtain ⟨v, c⟩ := t
  simp only at h1
  have hd := rDig_hexU h1.1 (show v ≤ 15 by omega)
  cases c
  · show (if thrOk (rDig ((hexU v).toNat : Int), false) then some (rDig ((hexU v).toNat : Int), false) else none) = _
    rw [hd, if_pos h]
  · show (if (120 : UInt8) = 120 then (if thrOk (rDig ((hexU v).toNat : Int), true) then some (rDig ((hexU v).toNat : Int), true) else none) else none) = _
    rw [hd, if_pos rfl, if_pos h]
theorem rdT_ok {l : List UInt8} {t : Thr} (h : rdT l = some t) : thrOk t = true := by
  unfold rdT at h
  split at h
  · split at h
    · injection h with h; subst h; assumption
    · cases h
  · split at h
    · split at h
      · injection h with h; subst h; assumption
      · cases h
    · cases h
  · cases h
theorem rdT_44 {l : List UInt8} (h : (44 : UInt8) ∈ l) : rdT l = none := by
  unfold rdT
  split
  · rename_i c
    have : c = 44 := (List.mem_singleton.1 h).symm
    subst this
    rw [if_neg (by rw [show rDig ((44 : UInt8).toNat : Int) = -1 by decide, thrOk_neg]; decide)]
  · rename_i c x
    by_cases hx : x = 120
    · subst hx
      have : c = 44 := by
        rcases List.mem_cons.1 h with e | e
        · exact e.symm
        · simp at e
      subst this
      rw [if_pos rfl, if_neg (by rw [show rDig ((44 : UInt8).toNat : Int) = -1 by decide, thrOk_neg]; decide)]
    · rw [if_neg hx]
  · rfl
/-- The beat of what stands between brackets. -/
def rdPair : Option Thr → Option Thr → Option Beat
  | some x, some y => some (x, y)
  | _, _ => none
def rdOwn (own : List UInt8) : Option Beat := if (cutL 44 own).2.2 then rdPair (rdT (cutL 44 own).1) (rdT (cutL 44 own).2.1) else none
theorem rdPair_none {a : Option Thr} : rdPair a none = none := by cases a <;> rfl
theorem rdOwn_ok {own : List UInt8} {b : Beat} (h : rdOwn own = some b) : btOk b = true := by
  unfold rdOwn at h
  split at h
  · cases h1 : rdT (cutL 44 own).1 with
    | none => rw [h1] at h; cases h
    | some x =>
      cases h2 : rdT (cutL 44 own).2.1 with
      | none => rw [h1, h2] at h; cases h
      | some y =>
        rw [h1, h2] at h
        injection h with h
        subst h
        simp only [btOk, rdT_ok h1, rdT_ok h2]; rfl
  · cases h
/-- The beats of a text, of which there can still be some. -/
def pB : Nat → List UInt8 → Option (List Beat)
  | _, [] => some []
  | 0, _ :: _ => none
  | n + 1, x :: r => if x = 40 then (if (cutL 41 r).2.2 then (match rdOwn (cutL 41 r).1 with
    | some b => (pB n (cutL 41 r).2.1).map (b :: ·)
    | none => none) else none) else none
def rdB (l : List UInt8) : Option (List Beat) := match pB 6 l with
  | some [] => none
  | r => r
theorem pB_nil (n : Nat) : pB n [] = some [] := by cases n <;> rfl
theorem thT_no {t : Thr} {c : UInt8} (h : thrOk t = true) (hc : rDig (c.toNat : Int) = -1) (h2 : c ≠ 120) : c ∉ thT t := by
  obtain ⟨h1, _, _⟩ := thrOk_iff.1 h
  unfold thT
  rw [List.mem_cons, not_or]
  refine ⟨fun e => hexU_ne h1.1 (by omega) hc e.symm, ?_⟩
  split
  · simpa using h2
  · simp
theorem rdOwn_bt {b : Beat} (h : btOk b = true) : rdOwn (thT b.1 ++ 44 :: thT b.2) = some b := by
  simp only [btOk, Bool.and_eq_true] at h
  unfold rdOwn
  rw [cutL_yes _ (thT_no h.1 (by decide) (by decide)), if_pos rfl]
  simp only
  rw [rdT_th h.1, rdT_th h.2]; rfl
theorem pB_cons {n : Nat} {b : Beat} (h : btOk b = true) (r : List UInt8) : pB (n + 1) (btT b ++ r) = (pB n r).map (b :: ·) := by
  have h' := h
  simp only [btOk, Bool.and_eq_true] at h'
  have hne : (41 : UInt8) ∉ thT b.1 ++ 44 :: thT b.2 := by
    rw [List.mem_append, not_or, List.mem_cons, not_or]
    exact ⟨thT_no h'.1 (by decide) (by decide), by decide, thT_no h'.2 (by decide) (by decide)⟩
  have e : btT b ++ r = 40 :: ((thT b.1 ++ 44 :: thT b.2) ++ 41 :: r) := by simp [btT]
  rw [e, pB, if_pos rfl, cutL_yes _ hne, if_pos rfl]
  simp only
  rw [rdOwn_bt h]
theorem pB_text : ∀ {p : List Beat} {n : Nat}, p.all btOk = true → p.length ≤ n → pB n (syT p) = some p := by
  intro p
  induction p with
  | nil => intro n _ _; exact pB_nil n
  | cons b p ih =>
    intro n h hn
    rw [List.all_cons, Bool.and_eq_true] at h
    obtain ⟨m, rfl⟩ : ∃ m, n = m + 1 := ⟨n - 1, by simp at hn; omega⟩
    rw [syT_cons, pB_cons h.1, ih h.2 (by simp at hn; omega)]; rfl
theorem beatsOk_all {p : List Beat} (h : beatsOk p = true) : p.all btOk = true := by unfold beatsOk at h; rw [Bool.and_eq_true] at h; exact h.1
theorem rdB_text {p : List Beat} (h : beatsOk p = true) : rdB (syT p) = some p := by
  obtain ⟨_, h1, h6⟩ := beatsOk_iff.1 h
  unfold rdB
  rw [pB_text (beatsOk_all h) h6]
  cases p with
  | nil => simp at h1
  | cons b p => rfl
theorem pB_ok : ∀ {n : Nat} {l : List UInt8} {p : List Beat}, pB n l = some p → p.all btOk = true ∧ p.length ≤ n := by
  intro n
  induction n with
  | zero =>
    intro l p h
    cases l with
    | nil => injection h with h; subst h; exact ⟨rfl, Nat.le_refl _⟩
    | cons x r => cases h
  | succ n ih =>
    intro l p h
    cases l with
    | nil => injection h with h; subst h; exact ⟨rfl, Nat.zero_le _⟩
    | cons x r =>
      rw [pB] at h
      split at h
      · split at h
        · cases h1 : rdOwn (cutL 41 r).1 with
          | none => rw [h1] at h; cases h
          | some b =>
            rw [h1] at h
            cases h2 : pB n (cutL 41 r).2.1 with
            | none => rw [h2] at h; cases h
            | some q =>
              rw [h2] at h
              injection h with h
              subst h
              have := ih h2
              exact ⟨by rw [List.all_cons, rdOwn_ok h1, this.1]; rfl, by simp; exact this.2⟩
        · cases h
      · cases h
theorem rdB_ok {l : List UInt8} {p : List Beat} (h : rdB l = some p) : beatsOk p = true := by
  unfold rdB at h
  split at h
  · cases h
  · rename_i hne
    obtain ⟨h1, h2⟩ := pB_ok h
    unfold beatsOk
    rw [h1, Bool.true_and, betweenB_iff]
    have : p ≠ [] := fun e => by subst e; exact hne h
    have := List.length_pos_iff.2 this
    omega
/-- The beats of all parts. -/
def pS : List (List UInt8) → Option (List Beat)
  | [] => some []
  | t :: ts => match t with
    | [] => none
    | x :: own => if x = 40 then (match rdOwn own with
      | some b => (pS ts).map (b :: ·)
      | none => none) else none
theorem pB_split : ∀ (n : Nat) (l : List UInt8), pB n l = if (splitL 41 l).getLastD [] = [] ∧ (splitL 41 l).length ≤ n + 1 then pS (splitL 41 l).dropLast else none := by
  intro n
  induction n with
  | zero =>
    intro l
    cases l with
    | nil => rfl
    | cons x r =>
      rw [if_neg]
      · rfl
      · rintro ⟨h1, h2⟩
        have h3 := splitL_ne 41 (x :: r)
        have h4 := splitL_cut 41 (x :: r)
        rw [h4] at h1 h2
        split at h1
        · rename_i hf
          rw [if_pos hf, List.length_cons] at h2
          have := splitL_ne 41 (cutL 41 (x :: r)).2.1
          omega
        · cases h1
  | succ n ih =>
    intro l
    cases l with
    | nil => rw [if_pos ⟨rfl, by simp [splitL]⟩]; rfl
    | cons x r =>
      have h4 := splitL_cut 41 (x :: r)
      by_cases hf : (cutL 41 (x :: r)).2.2 = true
      · rw [if_pos hf] at h4
        have h5 := splitL_ne 41 (cutL 41 (x :: r)).2.1
        obtain ⟨q, qs, hq⟩ : ∃ q qs, splitL 41 (cutL 41 (x :: r)).2.1 = q :: qs := by
          cases h : splitL 41 (cutL 41 (x :: r)).2.1 with
          | nil => rw [h] at h5; simp at h5
          | cons q qs => exact ⟨q, qs, rfl⟩
        rw [h4]
        have e1 : ((cutL 41 (x :: r)).1 :: splitL 41 (cutL 41 (x :: r)).2.1).getLastD [] = (splitL 41 (cutL 41 (x :: r)).2.1).getLastD [] := by rw [hq]; rfl
        have e2 : ((cutL 41 (x :: r)).1 :: splitL 41 (cutL 41 (x :: r)).2.1).dropLast = (cutL 41 (x :: r)).1 :: (splitL 41 (cutL 41 (x :: r)).2.1).dropLast := by rw [hq]; rfl
        rw [e1, e2, List.length_cons]
        by_cases hx : x = 41
        · subst hx
          have e3 : cutL 41 (41 :: r) = ([], r, true) := by rw [cutL, if_pos rfl]
          rw [e3]
          rw [pB, if_neg (by decide)]
          split <;> rfl
        · have e3 : cutL 41 (x :: r) = (x :: (cutL 41 r).1, (cutL 41 r).2.1, (cutL 41 r).2.2) := by rw [cutL, if_neg hx]
          rw [e3] at hf ⊢
          simp only at hf ⊢
          rw [pB]
          by_cases hx2 : x = 40
          · rw [if_pos hx2, if_pos hf, ih]
            by_cases hc : (splitL 41 (cutL 41 r).2.1).getLastD [] = [] ∧ (splitL 41 (cutL 41 r).2.1).length ≤ n + 1
            · rw [if_pos hc, if_pos ⟨hc.1, by omega⟩, pS, if_pos hx2]
            · rw [if_neg hc, if_neg (fun h => hc ⟨h.1, by omega⟩)]
              cases rdOwn (cutL 41 r).1 <;> rfl
          · rw [if_neg hx2]
            split
            · rw [pS, if_neg hx2]
            · rfl
      · rw [if_neg hf] at h4
        rw [h4, if_neg (fun h => by cases h.1)]
        rw [pB]
        split
        · rename_i hx
          subst hx
          have : ¬ (cutL 41 r).2.2 = true := by
            intro h
            refine hf ?_
            rw [cutL, if_neg (by decide)]; exact h
          rw [if_neg this]
        · rfl
/-- The beat by parts. -/
def rdOwn2 (own : List UInt8) : Option Beat := match splitL 44 own with
  | [a, b] => rdPair (rdT a) (rdT b)
  | _ => none
theorem rdOwn_split (own : List UInt8) : rdOwn2 own = rdOwn own := by
  unfold rdOwn2 rdOwn
  rw [splitL_cut]
  by_cases hf : (cutL 44 own).2.2 = true
  · rw [if_pos hf, if_pos hf]
    by_cases hb : (44 : UInt8) ∈ (cutL 44 own).2.1
    · rw [rdT_44 hb, rdPair_none, splitL_cut]
      have : (cutL 44 (cutL 44 own).2.1).2.2 = true := by
        rcases cutL_spec 44 (cutL 44 own).2.1 with h | h
        · exact h.1
        · exact absurd hb h.2.1
      rw [if_pos this]
      have := splitL_ne 44 (cutL 44 (cutL 44 own).2.1).2.1
      cases h : splitL 44 (cutL 44 (cutL 44 own).2.1).2.1 with
      | nil => rw [h] at this; simp at this
      | cons q qs => rfl
    · rw [splitL_not hb]
  · rw [if_neg hf, if_neg hf]
/-- What ReadSync gives. -/
def rReadSync (l : List UInt8) : List Beat × Bool :=
  if l.getLast? = some 42 then (match rdB l.dropLast with
    | some p => ((rStarSync p).1, (rStarSync p).2 == 0)
    | none => ([], false))
  else match rdB l with
    | some p => if syOk p then (p, true) else ([], false)
    | none => ([], false)
theorem btT_last (b : Beat) (l : List UInt8) : (l ++ btT b).getLast? = some 41 := by
  have : l ++ btT b = (l ++ (40 :: (thT b.1 ++ 44 :: thT b.2))) ++ [41] := by simp [btT]
  rw [this, List.getLast?_append]; rfl
theorem syT_last {p : List Beat} : (syT p).getLast? ≠ some 42 := by
  rcases List.eq_nil_or_concat p with rfl | ⟨q, b, rfl⟩
  · simp [syT]
  · rw [List.concat_eq_append, syT_snoc, btT_last]; decide
theorem read_text {p : List Beat} (h : syOk p = true) : rReadSync (syT p) = (p, true) := by
  have hb : beatsOk p = true := by unfold syOk at h; rw [Bool.and_eq_true] at h; exact h.1
  unfold rReadSync
  rw [if_neg syT_last, rdB_text hb]
  simp only
  rw [if_pos h]
def rSyncText (p : List Beat) : List UInt8 := if syOk p then syT p else []
theorem syT_ne {p : List Beat} (h : syOk p = true) : syT p ≠ [] := by
  have hb : beatsOk p = true := by unfold syOk at h; rw [Bool.and_eq_true] at h; exact h.1
  have := (beatsOk_iff.1 hb).2.1
  cases p with
  | nil => simp at this
  | cons b p => rw [syT_cons]; simp [btT]
theorem syT_len (p : List Beat) : (syT p).length ≤ 7 * p.length := by
  induction p with
  | nil => simp [syT]
  | cons b p ih =>
    have h : ∀ t : Thr, (thT t).length ≤ 2 := fun t => by unfold thT; split <;> simp
    have h1 := h b.1
    have h2 := h b.2
    rw [syT_cons, List.length_append, List.length_cons]
    simp only [btT, List.length_cons, List.length_append, List.length_nil]
    omega
end Go.Proofs.YtgphkfnobmponaaGreat
