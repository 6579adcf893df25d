/- The text: Qs. -/
import Derived.Test.YtgphkfnobmponaaGreatG10
/- Plain facts: passing patterns and their texts. Nothing of the program is named here but hexB, rDig. -/
namespace Go.Proofs.YtgphkfnobmponaaGreat
open Go.RowKit
set_option linter.unusedVariables false

/-- A throw: how far, and whether it is a pass. -/
abbrev PT := Int × Bool
abbrev Psg := List PT × List PT
def ptOk (t : PT) : Bool := betweenB t.1 0 15 && !(t.1 == 0 && t.2)
theorem ptOk_iff {t : PT} : ptOk t = true ↔ (0 ≤ t.1 ∧ t.1 ≤ 15) ∧ (t.1 = 0 → t.2 = false) := by
  obtain ⟨v, b⟩ := t
  cases b <;> simp [ptOk, betweenB_iff]
def ptsOk (l : List PT) : Bool := l.all ptOk
theorem ptsOk_iff {l : List PT} : ptsOk l = true ↔ ∀ t ∈ l, ptOk t = true := by simp [ptsOk]
def psSh (p : Psg) : Bool := betweenB (p.1.length : Int) 1 8 && (p.1.length == p.2.length) && ptsOk p.1 && ptsOk p.2
theorem psSh_iff {p : Psg} : psSh p = true ↔ (1 ≤ p.1.length ∧ p.1.length ≤ 8) ∧ p.1.length = p.2.length ∧ ptsOk p.1 = true ∧ ptsOk p.2 = true := by
  simp only [psSh, Bool.and_eq_true, betweenB_iff, beq_iff_eq, and_assoc]
  constructor
  · rintro ⟨h1, h2, h3⟩; exact ⟨by omega, by omega, h3⟩
  · rintro ⟨h1, h2, h3⟩; exact ⟨by omega, by omega, h3⟩
/-- Where a throw of a juggler lands, by twice the beat plus the juggler. -/
def psL (n j i : Nat) (t : PT) : Nat := (i + t.1.toNat) % n * 2 + (if t.2 then 1 - j else j)
theorem psL_lt {n j i : Nat} {t : PT} (hn : 0 < n) (hj : j ≤ 1) : psL n j i t < 2 * n := by
  have := Nat.mod_lt (i + t.1.toNat) hn
  unfold psL; split <;> omega
def psLs (n j : Nat) (l : List PT) : List Nat := l.mapIdx fun i t => psL n j i t
theorem psLs_len (n j : Nat) (l : List PT) : (psLs n j l).length = l.length := by simp [psLs]
theorem psLs_at {n j i : Nat} {l : List PT} {t : PT} (h : l[i]? = some t) : (psLs n j l)[i]? = some (psL n j i t) := by simp [psLs, h]
def psAll (p : Psg) : List Nat := psLs p.1.length 0 p.1 ++ psLs p.1.length 1 p.2
def psOk (p : Psg) : Bool := psSh p && decide (psAll p).Nodup
theorem psOk_iff {p : Psg} : psOk p = true ↔ psSh p = true ∧ (psAll p).Nodup := by simp [psOk]
/-- Two lists one after the other, element by element. -/
def ilv : List Nat → List Nat → List Nat
  | a :: l, b :: m => a :: b :: ilv l m
  | _, _ => []
theorem ilv_perm : ∀ {l m : List Nat}, l.length = m.length → (ilv l m).Perm (l ++ m) := by
  intro l
  induction l with
  | nil => intro m h; cases m with
    | nil => exact List.Perm.nil
    | cons => simp at h
  | cons a l ih =>
    intro m h
    cases m with
    | nil => simp at h
    | cons b m =>
      rw [ilv, List.cons_append]
      refine List.Perm.cons a (List.Perm.trans (List.Perm.cons b (ih (by simpa using h))) ?_)
      exact (List.perm_middle (a := b) (l₁ := l) (l₂ := m)).symm
theorem ilv_take : ∀ {l m : List Nat} {i : Nat} {a b : Nat}, l[i]? = some a → m[i]? = some b → (ilv l m).take (2 * (i + 1)) = (ilv l m).take (2 * i) ++ [a, b] := by
  intro l
  induction l with
  | nil => intro m i a b h; simp at h
  | cons x l ih =>
    intro m i a b h h'
    cases m with
    | nil => simp at h'
    | cons y m =>
      cases i with
      | zero =>
        simp only [List.getElem?_cons_zero, Option.some.injEq] at h h'
        subst h h'
        simp [ilv]
      | succ i =>
        simp only [List.getElem?_cons_succ] at h h'
        have := ih h h'
        rw [ilv, show 2 * (i + 1 + 1) = 2 * (i + 1) + 1 + 1 by omega, List.take_succ_cons, List.take_succ_cons, this, show 2 * (i + 1) = 2 * i + 1 + 1 by omega, List.take_succ_cons, List.take_succ_cons]; rfl
theorem ilv_len : ∀ {l m : List Nat}, l.length = m.length → (ilv l m).length = 2 * l.length := by
  intro l m h
  rw [(ilv_perm h).length_eq, List.length_append]; omega
theorem nodup_take {l : List Nat} (h : l.Nodup) (k : Nat) : (l.take k).Nodup := h.sublist (List.take_sublist k l)
theorem nodup_snoc {l : List Nat} {a : Nat} (h : l.Nodup) : (l ++ [a]).Nodup ↔ a ∉ l := by
  rw [List.nodup_append]
  constructor
  · rintro ⟨_, _, h3⟩ ha; exact h3 a ha a (by simp) rfl
  · intro ha
    exact ⟨h, by simp, fun x hx y hy e => by simp at hy; subst hy e; exact ha hx⟩
theorem take_snoc {α : Type} {l : List α} {k : Nat} {a : α} (h : l[k]? = some a) : l.take (k + 1) = l.take k ++ [a] := by rw [List.take_add_one, h]; rfl

/-- Parts put together again. -/
def joinL (c : UInt8) : List (List UInt8) → List UInt8
  | [] => []
  | [x] => x
  | x :: y :: r => x ++ c :: joinL c (y :: r)
theorem joinL_split (c : UInt8) : ∀ l : List UInt8, joinL c (splitL c l) = l := by
  intro l
  induction l with
  | nil => rfl
  | cons x r ih =>
    rw [splitL]
    have hne := splitL_ne c r
    by_cases hx : x = c
    · rw [if_pos hx]
      cases h : splitL c r with
      | nil => rw [h] at hne; simp at hne
      | cons p ps => rw [h] at ih; rw [joinL, ih, hx]; rfl
    · rw [if_neg hx]
      cases h : splitL c r with
      | nil => rw [h] at hne; simp at hne
      | cons p ps =>
        rw [h] at ih
        cases ps with
        | nil => simp only [joinL] at ih ⊢; rw [ih]
        | cons q qs => simp only [joinL] at ih ⊢; rw [List.cons_append, ih]
theorem splitL_join {c : UInt8} : ∀ {L : List (List UInt8)}, L ≠ [] → (∀ x ∈ L, c ∉ x) → splitL c (joinL c L) = L := by
  intro L
  induction L with
  | nil => intro h; exact absurd rfl h
  | cons x r ih =>
    intro _ h
    cases r with
    | nil => exact splitL_not (h x (by simp))
    | cons y r =>
      rw [joinL, splitL_yes _ (h x (by simp)), ih (by simp) (fun z hz => h z (List.mem_cons_of_mem _ hz))]
theorem joinL_snoc (c : UInt8) : ∀ (L : List (List UInt8)) (x : List UInt8), joinL c (L ++ [x]) = joinL c L ++ ((if L = [] then [] else [c]) ++ x) := by
  intro L
  induction L with
  | nil => intro x; simp [joinL]
  | cons y r ih =>
    intro x
    cases r with
    | nil => simp [joinL]
    | cons z r =>
      have := ih x
      simp only [List.cons_append, joinL] at this ⊢
      rw [this]; simp
/-- The text of a throw, of a juggler's throws, of a pattern. -/
def ptT (t : PT) : List UInt8 := hexU t.1 :: (if t.2 then [112] else [])
def psTx (l : List PT) : List UInt8 := joinL 32 (l.map ptT)
def paT (p : Psg) : List UInt8 := 60 :: (psTx p.1 ++ 124 :: (psTx p.2 ++ [62]))
def rPassingText (p : Psg) : List UInt8 := if psOk p then paT p else []
theorem psTx_step {l : List PT} {k : Nat} {t : PT} (h : l[k]? = some t) : psTx (l.take (k + 1)) = psTx (l.take k) ++ ((if k = 0 then [] else [32]) ++ ptT t) := by
  have hk := (List.getElem?_eq_some_iff.1 h).1
  rw [psTx, take_snoc h, List.map_append, List.map_cons, List.map_nil, joinL_snoc, psTx]
  have hq : ((l.take k).map ptT = []) ↔ k = 0 := by
    rw [List.map_eq_nil_iff, List.take_eq_nil_iff]
    constructor
    · rintro (h0 | h0)
      · exact h0
      · rw [h0] at hk; simp at hk
    · exact .inl
  simp only [hq]
theorem ptT_len (t : PT) : 1 ≤ (ptT t).length ∧ (ptT t).length ≤ 2 := by unfold ptT; split <;> simp
theorem joinL_len (c : UInt8) : ∀ (L : List (List UInt8)), (∀ x ∈ L, x.length ≤ 2) → (joinL c L).length ≤ 3 * L.length := by
  intro L
  induction L with
  | nil => intro _; simp [joinL]
  | cons x r ih =>
    intro h
    have hx := h x (by simp)
    cases r with
    | nil => simp [joinL]; omega
    | cons y r =>
      have := ih (fun z hz => h z (List.mem_cons_of_mem _ hz))
      simp only [joinL, List.length_append, List.length_cons] at this ⊢
      omega
theorem psTx_len (l : List PT) : (psTx l).length ≤ 3 * l.length := by
  have := joinL_len 32 (l.map ptT) (fun x hx => by
    obtain ⟨t, _, rfl⟩ := List.mem_map.1 hx
    exact (ptT_len t).2)
  rw [List.length_map] at this
  exact this
theorem paT_len (p : Psg) : (paT p).length ≤ 3 * p.1.length + 3 * p.2.length + 3 := by
  have h1 := psTx_len p.1
  have h2 := psTx_len p.2
  simp only [paT, List.length_append, List.length_cons, List.length_nil]
  omega

/-- The throw of a text. -/
def rdP : List UInt8 → Option PT
  | [c] => if 0 ≤ rDig (c.toNat : Int) then some (rDig (c.toNat : Int), false) else none
  | [c, x] => if x = 112 then (if 0 ≤ rDig (c.toNat : Int) then some (rDig (c.toNat : Int), true) else none) else none
  | _ => none
def rdPs : List (List UInt8) → Option (List PT)
  | [] => some []
  | x :: r => match rdP x, rdPs r with
    | some t, some q => some (t :: q)
    | _, _ => none
theorem rdPs_len : ∀ {L : List (List UInt8)} {q : List PT}, rdPs L = some q → q.length = L.length := by
  intro L
  induction L with
  | nil => intro q h; injection h with h; subst h; rfl
  | cons x r ih =>
    intro q h
    unfold rdPs at h
    split at h
    · rename_i t q' h1 h2
      injection h with h; subst h
      rw [List.length_cons, List.length_cons, ih h2]
    · cases h
theorem rDig_16 (c : Int) : rDig c ≤ 15 := by unfold rDig; split <;> (try split) <;> omega
theorem rDig_low {c : Int} (h : rDig c < 0) : rDig c = -1 := by unfold rDig at h ⊢; split at h <;> (try split at h) <;> simp_all <;> omega
theorem hexU_rDig (c : UInt8) (h : 0 ≤ rDig (c.toNat : Int)) : hexU (rDig (c.toNat : Int)) = c := by
  have h15 := rDig_16 (c.toNat : Int)
  refine UInt8.toNat_inj.1 (Int.natCast_inj.1 ?_)
  rw [hexU_nat h h15]
  unfold rDig at h ⊢
  unfold hexB
  split at h
  · rename_i hc
    rw [if_pos hc]
    split <;> omega
  · rename_i hc
    rw [if_neg hc]
    split at h
    · rename_i hd
      rw [if_pos hd]
      split <;> omega
    · simp at h
theorem rdP_pt {t : PT} (h : ptOk t = true) : rdP (ptT t) = some t := by
  obtain ⟨⟨h0, h1⟩, _⟩ := ptOk_iff.1 h
  obtain ⟨v, b⟩ := t
  have hd := rDig_hexU h0 h1
  simp only at hd h0
  cases b
  · show (if 0 ≤ rDig ((hexU v).toNat : Int) then some (rDig ((hexU v).toNat : Int), false) else none) = _
    rw [hd, if_pos h0]
  · show (if (112 : UInt8) = 112 then (if 0 ≤ rDig ((hexU v).toNat : Int) then some (rDig ((hexU v).toNat : Int), true) else none) else none) = _
    rw [hd, if_pos rfl, if_pos h0]
theorem ptT_rd {x : List UInt8} {t : PT} (h : rdP x = some t) : ptT t = x ∧ 0 ≤ t.1 ∧ t.1 ≤ 15 := by
  unfold rdP at h
  split at h
  · rename_i c
    split at h
    · rename_i h0; injection h with h; subst h
      exact ⟨by show [hexU _] = _; rw [hexU_rDig c h0], h0, rDig_16 _⟩
    · cases h
  · rename_i c x
    split at h
    · rename_i hx
      split at h
      · rename_i h0; injection h with h; subst h hx
        exact ⟨by show [hexU _, 112] = _; rw [hexU_rDig c h0], h0, rDig_16 _⟩
      · cases h
    · cases h
  · cases h
theorem rdPs_text : ∀ {l : List PT}, ptsOk l = true → rdPs (l.map ptT) = some l := by
  intro l
  induction l with
  | nil => intro _; rfl
  | cons t l ih =>
    intro h
    rw [ptsOk, List.all_cons, Bool.and_eq_true] at h
    rw [List.map_cons, rdPs, rdP_pt h.1, ih h.2]
theorem text_rdPs : ∀ {L : List (List UInt8)} {q : List PT}, rdPs L = some q → q.map ptT = L := by
  intro L
  induction L with
  | nil => intro q h; injection h with h; subst h; rfl
  | cons x r ih =>
    intro q h
    unfold rdPs at h
    split at h
    · rename_i t q' h1 h2
      injection h with h; subst h
      rw [List.map_cons, ih h2, (ptT_rd h1).1]
    · cases h
theorem rdP_124 {x : List UInt8} (h : (124 : UInt8) ∈ x) : rdP x = none := by
  cases hr : rdP x with
  | none => rfl
  | some t =>
    obtain ⟨e, h0, h1⟩ := ptT_rd hr
    rw [← e] at h
    unfold ptT at h
    rcases List.mem_cons.1 h with e | e
    · exact absurd e.symm (hexU_ne h0 h1 (by decide))
    · split at e <;> simp at e
theorem rdPs_124 : ∀ {L : List (List UInt8)} {x : List UInt8}, x ∈ L → (124 : UInt8) ∈ x → rdPs L = none := by
  intro L
  induction L with
  | nil => intro x h; simp at h
  | cons y r ih =>
    intro x h hx
    unfold rdPs
    rcases List.mem_cons.1 h with rfl | h
    · rw [rdP_124 hx]
    · rw [ih h hx]; cases rdP y <;> rfl
theorem mem_part {c d : UInt8} (hcd : c ≠ d) : ∀ {l : List UInt8}, d ∈ l → ∃ x ∈ splitL c l, d ∈ x := by
  intro l
  induction l with
  | nil => intro h; simp at h
  | cons y r ih =>
    intro h
    rw [splitL]
    have hne := splitL_ne c r
    by_cases hy : y = c
    · rw [if_pos hy]
      rcases List.mem_cons.1 h with e | h
      · exact absurd (hy.symm.trans e.symm) hcd
      · obtain ⟨x, hx, hd⟩ := ih h
        exact ⟨x, List.mem_cons_of_mem _ hx, hd⟩
    · rw [if_neg hy]
      cases hs : splitL c r with
      | nil => rw [hs] at hne; simp at hne
      | cons p ps =>
        simp only
        rcases List.mem_cons.1 h with e | h
        · exact ⟨y :: p, by simp, by rw [e]; simp⟩
        · obtain ⟨x, hx, hd⟩ := ih h
          rw [hs] at hx
          rcases List.mem_cons.1 hx with rfl | hx
          · exact ⟨y :: x, by simp, List.mem_cons_of_mem _ hd⟩
          · exact ⟨x, List.mem_cons_of_mem _ hx, hd⟩
theorem rdPs_bar {l : List UInt8} (h : (124 : UInt8) ∈ l) : rdPs (splitL 32 l) = none := by
  obtain ⟨x, hx, hd⟩ := mem_part (c := 32) (by decide) h
  exact rdPs_124 hx hd
/-- The throws of a juggler's text. -/
def rdJ (l : List UInt8) : Option (List PT) := rdPs (splitL 32 l)
def rdTwo : Option (List PT) → Option (List PT) → Option Psg
  | some a, some b => if psSh (a, b) then some (a, b) else none
  | _, _ => none
theorem rdTwo_none {a : Option (List PT)} : rdTwo a none = none := by cases a <;> rfl
theorem rdTwo_sh {a b : Option (List PT)} {p : Psg} (h : rdTwo a b = some p) : psSh p = true ∧ a = some p.1 ∧ b = some p.2 := by
  unfold rdTwo at h
  split at h
  · split at h
    · injection h with h; subst h; exact ⟨by assumption, rfl, rfl⟩
    · cases h
  · cases h
/-- The form between the brackets. -/
def rdForm (m : List UInt8) : Option Psg := if (cutL 124 m).2.2 then rdTwo (rdJ (cutL 124 m).1) (rdJ (cutL 124 m).2.1) else none
def rdPa (l : List UInt8) : Option Psg := if 2 ≤ l.length ∧ l.head? = some 60 ∧ l.getLast? = some 62 then rdForm (l.drop 1).dropLast else none
def psElse : Option Psg → Psg × Bool
  | some p => if psOk p then (p, true) else (([], []), false)
  | none => (([], []), false)
def rReadPassing (l : List UInt8) : Psg × Bool := psElse (rdPa l)
/-- The same by parts. -/
def rdForm2 (m : List UInt8) : Option Psg := match splitL 124 m with
  | [x, y] => rdTwo (rdJ x) (rdJ y)
  | _ => none
theorem rdForm_split (m : List UInt8) : rdForm2 m = rdForm m := by
  unfold rdForm2 rdForm
  rw [splitL_cut]
  split
  · rename_i x y h
    split at h
    · rename_i hc
      rw [if_pos hc]
      injection h with h1 h2
      rw [splitL_cut] at h2
      split at h2
      · have := splitL_ne 124 (cutL 124 (cutL 124 m).2.1).2.1
        injection h2 with _ h2
        rw [h2] at this; simp at this
      · injection h2 with h2 _
        rw [← h1, ← h2]
    · simp at h
  · rename_i h
    split
    · rename_i hc
      have h124 : (124 : UInt8) ∈ (cutL 124 m).2.1 := by
        rcases Classical.em ((124 : UInt8) ∈ (cutL 124 m).2.1) with h2 | h2
        · exact h2
        · exfalso
          refine h (cutL 124 m).1 (cutL 124 m).2.1 ?_
          rw [if_pos hc, splitL_not h2]
      rw [rdJ, rdJ, rdPs_bar h124, rdTwo_none]
    · rfl
theorem ptT_no {t : PT} {c : UInt8} (h : ptOk t = true) (hc : rDig (c.toNat : Int) = -1) (h2 : c ≠ 112) : c ∉ ptT t := by
  obtain ⟨⟨h0, h1⟩, _⟩ := ptOk_iff.1 h
  unfold ptT
  rw [List.mem_cons, not_or]
  refine ⟨fun e => hexU_ne h0 h1 hc e.symm, ?_⟩
  split
  · simpa using h2
  · simp
theorem joinL_mem {c d : UInt8} : ∀ {L : List (List UInt8)}, d ∈ joinL c L → d = c ∨ ∃ x ∈ L, d ∈ x := by
  intro L
  induction L with
  | nil => intro h; simp [joinL] at h
  | cons x r ih =>
    intro h
    cases r with
    | nil => exact .inr ⟨x, by simp, h⟩
    | cons y r =>
      rw [joinL, List.mem_append, List.mem_cons] at h
      rcases h with h | h | h
      · exact .inr ⟨x, by simp, h⟩
      · exact .inl h
      · rcases ih h with h | ⟨z, hz, hd⟩
        · exact .inl h
        · exact .inr ⟨z, List.mem_cons_of_mem _ hz, hd⟩
theorem psTx_no {l : List PT} {c : UInt8} (h : ptsOk l = true) (hc : rDig (c.toNat : Int) = -1) (h2 : c ≠ 112) (h3 : c ≠ 32) : c ∉ psTx l := by
  intro hm
  rcases joinL_mem hm with e | ⟨x, hx, hd⟩
  · exact h3 e
  · obtain ⟨t, ht, rfl⟩ := List.mem_map.1 hx
    exact ptT_no (ptsOk_iff.1 h t ht) hc h2 hd
theorem rdJ_text {l : List PT} (h : ptsOk l = true) (hl : 1 ≤ l.length) : rdJ (psTx l) = some l := by
  unfold rdJ psTx
  rw [splitL_join (by intro e; rw [List.map_eq_nil_iff] at e; rw [e] at hl; simp at hl) (fun x hx => ?_)]
  · exact rdPs_text h
  · obtain ⟨t, ht, rfl⟩ := List.mem_map.1 hx
    exact ptT_no (ptsOk_iff.1 h t ht) (by decide) (by decide)
theorem text_rdJ {l : List UInt8} {q : List PT} (h : rdJ l = some q) : psTx q = l := by
  unfold psTx
  rw [text_rdPs h, joinL_split]
theorem paT_last (p : Psg) : (paT p).getLast? = some 62 := by
  have : paT p = (60 :: (psTx p.1 ++ 124 :: psTx p.2)) ++ [62] := by simp [paT]
  rw [this, List.getLast?_append]; rfl
theorem paT_mid (p : Psg) : ((paT p).drop 1).dropLast = psTx p.1 ++ 124 :: psTx p.2 := by
  have : (paT p).drop 1 = (psTx p.1 ++ 124 :: psTx p.2) ++ [62] := by simp [paT]
  rw [this, List.dropLast_concat]
theorem rdPa_text {p : Psg} (h : psSh p = true) : rdPa (paT p) = some p := by
  obtain ⟨⟨h1, h8⟩, he, ha, hb⟩ := psSh_iff.1 h
  unfold rdPa
  rw [if_pos ⟨by simp [paT]; omega, rfl, paT_last p⟩, paT_mid]
  unfold rdForm
  rw [cutL_yes _ (psTx_no ha (by decide) (by decide) (by decide)), if_pos rfl]
  simp only
  rw [rdJ_text ha h1, rdJ_text hb (by omega)]
  show (if psSh (p.1, p.2) then some (p.1, p.2) else none) = _
  rw [if_pos h]
theorem passing_there {p : Psg} (h : psOk p = true) : rReadPassing (paT p) = (p, true) := by
  unfold rReadPassing
  rw [rdPa_text (psOk_iff.1 h).1]
  show (if psOk p then (p, true) else _) = _
  rw [if_pos h]
theorem rdPa_back {l : List UInt8} {p : Psg} (h : rdPa l = some p) : paT p = l ∧ psSh p = true := by
  unfold rdPa at h
  split at h
  · rename_i hc
    obtain ⟨h2, hh, hl⟩ := hc
    unfold rdForm at h
    split at h
    · rename_i hcut
      obtain ⟨hs, h1, h2'⟩ := rdTwo_sh h
      refine ⟨?_, hs⟩
      rcases cutL_spec 124 (l.drop 1).dropLast with ⟨_, e, _⟩ | ⟨hf, _⟩
      · rw [paT, text_rdJ h1, text_rdJ h2']
        cases l with
        | nil => simp at h2
        | cons x r =>
          simp only [List.head?_cons, Option.some.injEq] at hh
          subst hh
          simp only [List.drop_succ_cons, List.drop_zero] at e ⊢
          have hr : r ≠ [] := by intro e; subst e; simp at h2
          have hlast : r.getLast? = some 62 := by
            rw [List.getLast?_cons] at hl
            rw [List.getLast?_eq_some_getLast hr] at hl ⊢
            simpa using hl
          have hlast2 : r.getLast hr = 62 := by rw [List.getLast?_eq_some_getLast hr] at hlast; injection hlast
          conv => rhs; rw [← List.dropLast_concat_getLast hr, hlast2, e]
          simp
      · rw [hf] at hcut; cases hcut
    · cases h
  · cases h
end Go.Proofs.YtgphkfnobmponaaGreat
