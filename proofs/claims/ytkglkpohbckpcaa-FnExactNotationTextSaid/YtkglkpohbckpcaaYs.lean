/- Plain facts: synchronous patterns, their mirror images and their landings. Nothing of the program is named here. -/
import Derived.Test.YtkglkpohbckpcaaO
namespace Go.Proofs.Ytkglkpohbckpcaa
open Go.RowKit
set_option linter.unusedVariables false

/-- A throw of a hand: how far, and whether it crosses. -/
abbrev Thr := Int × Bool
abbrev Beat := Thr × Thr
def thrOk (t : Thr) : Bool := betweenB t.1 0 14 && (t.1 % 2 == 0) && (decide (0 < t.1) || !t.2)
theorem thrOk_iff {t : Thr} : thrOk t = true ↔ (0 ≤ t.1 ∧ t.1 ≤ 14) ∧ t.1 % 2 = 0 ∧ (0 < t.1 ∨ t.2 = false) := by
  simp [thrOk, betweenB, and_assoc]
def btOk (b : Beat) : Bool := thrOk b.1 && thrOk b.2
def beatsOk (p : List Beat) : Bool := p.all btOk && betweenB p.length 1 6
theorem beatsOk_iff {p : List Beat} : beatsOk p = true ↔ (∀ b ∈ p, thrOk b.1 = true ∧ thrOk b.2 = true) ∧ 1 ≤ p.length ∧ p.length ≤ 6 := by
  simp [beatsOk, btOk, betweenB_iff]
  intro _; omega
def b0 : Beat := ((0, false), (0, false))
/-- The throw with a number: the left hand's are even. -/
def nth (p : List Beat) (k : Nat) : Thr := if k % 2 = 0 then (p.getD (k / 2) b0).1 else (p.getD (k / 2) b0).2
/-- The hand in which a throw lands. -/
def hnd (p : List Beat) (k : Nat) : Nat := if (nth p k).2 then 1 - k % 2 else k % 2
/-- Where the throw with a number lands. -/
def syL (p : List Beat) (k : Nat) : Int := (((k / 2 : Nat) : Int) + (nth p k).1 / 2) % (p.length : Int) * 2 + (hnd p k : Nat)
def syC (p : List Beat) : Option (Nat × Nat) := col2 (syL p) (2 * p.length) 0
def syOk (p : List Beat) : Bool := beatsOk p && (syC p).isNone
def rSyncClash (p : List Beat) : Int × Int × Int := if beatsOk p then colR (syC p) else (0, 0, 1)
def mirB (b : Beat) : Beat := (b.2, b.1)
def mirP (p : List Beat) : List Beat := p.map mirB
theorem mirP_len (p : List Beat) : (mirP p).length = p.length := by simp [mirP]
theorem mirP_mir (p : List Beat) : mirP (mirP p) = p := by
  rw [mirP, mirP, List.map_map]
  have : (mirB ∘ mirB) = id := by funext b; rfl
  rw [this, List.map_id]
theorem mirP_append (p q : List Beat) : mirP (p ++ q) = mirP p ++ mirP q := by simp [mirP]
theorem mirP_ok {p : List Beat} (h : beatsOk p = true) : beatsOk (mirP p) = true := by
  obtain ⟨h1, h2, h3⟩ := beatsOk_iff.1 h
  refine beatsOk_iff.2 ⟨fun b hb => ?_, by rw [mirP_len]; exact h2, by rw [mirP_len]; exact h3⟩
  obtain ⟨c, hc, rfl⟩ := List.mem_map.1 hb
  exact ⟨(h1 c hc).2, (h1 c hc).1⟩
/-- The other hand's number. -/
def flip1 (k : Nat) : Nat := if k % 2 = 0 then k + 1 else k - 1
theorem flip1_lt {k n : Nat} (h : k < 2 * n) : flip1 k < 2 * n := by unfold flip1; split <;> omega
theorem flip1_div (k : Nat) : flip1 k / 2 = k / 2 := by unfold flip1; split <;> omega
theorem flip1_mod (k : Nat) : flip1 k % 2 = 1 - k % 2 := by unfold flip1; split <;> omega
theorem flip1_inj {a b : Nat} (h : flip1 a = flip1 b) : a = b := by unfold flip1 at h; split at h <;> split at h <;> omega
theorem mirP_getD (p : List Beat) (j : Nat) (h : j < p.length) : (mirP p).getD j b0 = mirB (p.getD j b0) := by
  rw [List.getD_eq_getElem?_getD, List.getD_eq_getElem?_getD, mirP, List.getElem?_map, List.getElem?_eq_getElem h]; rfl
theorem nth_mir {p : List Beat} {k : Nat} (h : k < 2 * p.length) : nth (mirP p) k = nth p (flip1 k) := by
  unfold nth
  rw [mirP_getD p _ (by omega), flip1_div, flip1_mod]
  by_cases hk : k % 2 = 0
  · rw [if_pos hk, if_neg (by omega)]; rfl
  · rw [if_neg hk, if_pos (by omega)]; rfl
theorem syL_mir {p : List Beat} {k : Nat} (h : k < 2 * p.length) : syL (mirP p) k = syL p (flip1 k) + (1 - 2 * (hnd p (flip1 k) : Nat)) := by
  unfold syL hnd
  rw [nth_mir h, mirP_len, flip1_div, flip1_mod]
  have h2 : k % 2 = 0 ∨ k % 2 = 1 := by omega
  cases hc : (nth p (flip1 k)).2
  · simp only [Bool.false_eq_true, if_false]
    rcases h2 with h2 | h2 <;> rw [h2] <;> simp <;> omega
  · simp only [if_true]
    rcases h2 with h2 | h2 <;> rw [h2] <;> simp <;> omega
theorem hnd_01 (p : List Beat) (k : Nat) : hnd p k = 0 ∨ hnd p k = 1 := by unfold hnd; split <;> omega
theorem syL_hand (p : List Beat) (k : Nat) : syL p k % 2 = (hnd p k : Nat) := by
  unfold syL
  rcases hnd_01 p k with h | h <;> rw [h] <;> omega
theorem syOk_ne {p : List Beat} (h : syOk p = true) {a b : Nat} (ha : a < 2 * p.length) (hb : b < 2 * p.length) (hab : a ≠ b) : syL p a ≠ syL p b := by
  unfold syOk at h
  rw [Bool.and_eq_true] at h
  have hn : syC p = none := by
    cases hc : syC p with
    | none => rfl
    | some x => rw [hc] at h; simp at h
  rcases Nat.lt_or_ge a b with k | k
  · exact col2_none hn b (by omega) (by omega) a k
  · exact fun e => col2_none hn a (by omega) (by omega) b (by omega) e.symm
theorem syOk_mk {p : List Beat} (h : beatsOk p = true) (hinj : ∀ a b : Nat, a < b → b < 2 * p.length → syL p a ≠ syL p b) : syOk p = true := by
  unfold syOk
  rw [h, Bool.true_and]
  cases hc : syC p with
  | none => rfl
  | some x =>
    exfalso
    obtain ⟨a, b⟩ := x
    obtain ⟨g1, g2, g3, g4⟩ := col2_some (show col2 (syL p) (2 * p.length) 0 = some (a, b) from hc)
    exact hinj a b g1 (by omega) g4
/-- The mirror image of a pattern is one. -/
theorem syOk_mir {p : List Beat} (h : syOk p = true) : syOk (mirP p) = true := by
  have hb : beatsOk p = true := by unfold syOk at h; rw [Bool.and_eq_true] at h; exact h.1
  refine syOk_mk (mirP_ok hb) fun a b hab hbl e => ?_
  rw [mirP_len] at hbl
  rw [syL_mir (by omega), syL_mir hbl] at e
  have h1 := syL_hand p (flip1 a)
  have h2 := syL_hand p (flip1 b)
  have hne := syOk_ne h (flip1_lt (show a < 2 * p.length by omega)) (flip1_lt hbl) (fun e => by have := flip1_inj e; omega)
  rcases hnd_01 p (flip1 a) with k1 | k1 <;> rcases hnd_01 p (flip1 b) with k2 | k2 <;> rw [k1] at h1 e <;> rw [k2] at h2 e <;> omega
/-- The sum of all throws. -/
def sumB : List Beat → Int
  | [] => 0
  | b :: p => b.1.1 + b.2.1 + sumB p
theorem sumB_mir : ∀ p : List Beat, sumB (mirP p) = sumB p := by
  intro p
  induction p with
  | nil => rfl
  | cons b p ih =>
    have e : mirP (b :: p) = mirB b :: mirP p := rfl
    rw [e, sumB, sumB, ih]
    show b.2.1 + b.1.1 + sumB p = _
    omega
def syPr (p : List Beat) : Int := sumB p / (2 * (p.length : Int))
def rSyncProps (p : List Beat) : Int × Int := if syOk p then (syPr p, 0) else (0, 1)
def rMirrorSync (p : List Beat) : List Beat × Int := if syOk p then (mirP p, 0) else ([], 1)
def rStarSync (p : List Beat) : List Beat × Int := if beatsOk p then (if 6 < 2 * p.length then ([], 5) else if syOk (p ++ mirP p) then (p ++ mirP p, 0) else ([], 9)) else ([], 1)
/-- Beats as cells. -/
def btC (b : Beat) : List Value := [.int .i64 b.1.1, .bool b.1.2, .int .i64 b.2.1, .bool b.2.2]
def bts (p : List Beat) : List Value := p.flatMap btC
theorem bts_len (p : List Beat) : (bts p).length = p.length * 4 := by
  induction p with
  | nil => rfl
  | cons b p ih =>
    have : bts (b :: p) = btC b ++ bts p := rfl
    rw [this, List.length_append, ih, List.length_cons]
    show 4 + p.length * 4 = _
    omega
theorem bts_snoc (p : List Beat) (b : Beat) : bts p ++ btC b = bts (p ++ [b]) := by simp [bts]
theorem bts_append (p q : List Beat) : bts p ++ bts q = bts (p ++ q) := by simp [bts]
theorem bts_at : ∀ {p : List Beat} {i : Nat} {b : Beat}, p[i]? = some b → (bts p)[i * 4]? = some (.int .i64 b.1.1) ∧ (bts p)[i * 4 + 1]? = some (.bool b.1.2) ∧ (bts p)[i * 4 + 2]? = some (.int .i64 b.2.1) ∧ (bts p)[i * 4 + 3]? = some (.bool b.2.2) := by
  intro p
  induction p with
  | nil => intro i b h; simp at h
  | cons c p ih =>
    intro i b h
    have e : bts (c :: p) = btC c ++ bts p := rfl
    have hl : (btC c).length = 4 := rfl
    cases i with
    | zero =>
      simp at h; subst h
      rw [e]
      refine ⟨rfl, rfl, rfl, rfl⟩
    | succ i =>
      have h2 := ih (i := i) (b := b) (by simpa using h)
      rw [e]
      have a0 : (i + 1) * 4 = 4 + i * 4 := by omega
      refine ⟨?_, ?_, ?_, ?_⟩
      · rw [List.getElem?_append_right (by omega), hl, show (i + 1) * 4 - 4 = i * 4 by omega]; exact h2.1
      · rw [List.getElem?_append_right (by omega), hl, show (i + 1) * 4 + 1 - 4 = i * 4 + 1 by omega]; exact h2.2.1
      · rw [List.getElem?_append_right (by omega), hl, show (i + 1) * 4 + 2 - 4 = i * 4 + 2 by omega]; exact h2.2.2.1
      · rw [List.getElem?_append_right (by omega), hl, show (i + 1) * 4 + 3 - 4 = i * 4 + 3 by omega]; exact h2.2.2.2
theorem Rd.bt_at {w : World} {B n i : Nat} {A : Option Addr} {p : List Beat} (h : Rd w B 4 A n (bts p)) (hi : i < n) :
    ∃ b off x, A = some ⟨b, off, none⟩ ∧ b < B ∧ p[i]? = some x ∧ p.drop i = x :: p.drop (i + 1) ∧ w.cell? ⟨b, off + i * 4, none⟩ = some (.int .i64 x.1.1) ∧ w.cell? ⟨b, off + i * 4 + 1, none⟩ = some (.bool x.1.2) ∧ w.cell? ⟨b, off + i * 4 + 2, none⟩ = some (.int .i64 x.2.1) ∧ w.cell? ⟨b, off + i * 4 + 3, none⟩ = some (.bool x.2.2) := by
  have hl : p.length = n := by have := h.1; rw [bts_len] at this; omega
  obtain ⟨b, off, e, hb, hc⟩ := h.2 (by omega)
  obtain ⟨x, hx⟩ : ∃ x, p[i]? = some x := ⟨_, List.getElem?_eq_getElem (by omega)⟩
  obtain ⟨c0, c1, c2, c3⟩ := bts_at hx
  refine ⟨b, off, x, e, hb, hx, ?_, hc _ _ c0, ?_, ?_, ?_⟩
  · obtain ⟨hl2, rfl⟩ := List.getElem?_eq_some_iff.1 hx
    exact List.drop_eq_getElem_cons hl2
  · rw [show off + i * 4 + 1 = off + (i * 4 + 1) by omega]; exact hc _ _ c1
  · rw [show off + i * 4 + 2 = off + (i * 4 + 2) by omega]; exact hc _ _ c2
  · rw [show off + i * 4 + 3 = off + (i * 4 + 3) by omega]; exact hc _ _ c3
theorem Rd.bt_len {w : World} {B n : Nat} {A : Option Addr} {p : List Beat} (h : Rd w B 4 A n (bts p)) : p.length = n := by
  have := h.1
  rw [bts_len] at this; omega
end Go.Proofs.Ytkglkpohbckpcaa
