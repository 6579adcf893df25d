/- Several texts in one: Dr, Mo, Gr, Co, Zy, F6. -/
import Derived.Test.YtgphkfnobmponaaGreatG03
import Derived.Test.YtgphkfnobmponaaGreatG04
import Derived.Test.YtgphkfnobmponaaGreatProg
import Derived.Test.YtgphkfnobmponaaGreatG02
import Derived.Laws.AppendOwnNone
import Derived.Deep.QuietTactic
import Derived.BigQuiet
/- Plain facts: rearrangements of the first numbers, and the patterns that are drawn by them. Nothing of the program is named here. -/
namespace Go.Proofs.YtgphkfnobmponaaGreat
open Go.RowKit
set_option linter.unusedVariables false

/-- A list of the numbers below k, each once. -/
def Perm (k : Nat) (L : List Int) : Prop := L.length = k ∧ (∀ j, j < k → 0 ≤ L.getD j 0 ∧ L.getD j 0 < k) ∧ ∀ i j, i < k → j < k → i ≠ j → L.getD i 0 ≠ L.getD j 0
theorem Perm.nil : Perm 0 [] := ⟨rfl, fun j h => by omega, fun i j h => by omega⟩
theorem getD_set (L : List Int) (a : Nat) (x : Int) (j : Nat) : (L.set a x).getD j 0 = if a = j ∧ j < L.length then x else L.getD j 0 := by
  rw [List.getD_eq_getElem?_getD, List.getD_eq_getElem?_getD, List.getElem?_set]
  by_cases e : a = j
  · subst e
    by_cases h : a < L.length
    · simp [h]
    · simp [h]
  · simp [e]
/-- One number more, exchanged with the one at a place. -/
def swapIn (L : List Int) (k a : Nat) : List Int := ((L ++ [(k : Int)]).set k ((L ++ [(k : Int)]).getD a 0)).set a (k : Int)
theorem swapIn_at {L : List Int} {k a : Nat} (h : L.length = k) (ha : a ≤ k) (j : Nat) (hj : j ≤ k) : (swapIn L k a).getD j 0 = if j = a then (k : Int) else if j = k then L.getD a 0 else L.getD j 0 := by
  unfold swapIn
  have hl : (L ++ [(k : Int)]).length = k + 1 := by simp [h]
  have happ : ∀ i, i < k → (L ++ [(k : Int)]).getD i 0 = L.getD i 0 := fun i hi => by
    rw [List.getD_eq_getElem?_getD, List.getD_eq_getElem?_getD, List.getElem?_append_left (by omega)]
  rw [getD_set, getD_set, List.length_set, hl]
  by_cases e : j = a
  · subst e; simp; omega
  · have e2 : ¬ (a = j ∧ j < k + 1) := by omega
    rw [if_neg e2, if_neg e]
    by_cases e3 : j = k
    · subst e3
      rw [if_pos (by omega), if_pos rfl]
      exact happ a (by omega)
    · rw [if_neg (by omega), if_neg e3, happ j (by omega)]
theorem swapIn_len {L : List Int} {k a : Nat} (h : L.length = k) : (swapIn L k a).length = k + 1 := by simp [swapIn, h]
theorem Perm.swapIn {k a : Nat} {L : List Int} (h : Perm k L) (ha : a ≤ k) : Perm (k + 1) (swapIn L k a) := by
  obtain ⟨h1, h2, h3⟩ := h
  refine ⟨swapIn_len h1, fun j hj => ?_, fun i j hi hj hij => ?_⟩
  · rw [swapIn_at h1 ha j (by omega)]
    split
    · omega
    · split
      · rename_i e1 e2
        have := h2 a (by omega)
        omega
      · rename_i e1 e2
        have := h2 j (by omega)
        omega
  · rw [swapIn_at h1 ha i (by omega), swapIn_at h1 ha j (by omega)]
    by_cases e1 : i = a
    · rw [if_pos e1, if_neg (by omega)]
      by_cases e2 : j = k
      · rw [if_pos e2]; have := h2 a (by omega); omega
      · rw [if_neg e2]; have := h2 j (by omega); omega
    · rw [if_neg e1]
      by_cases e3 : j = a
      · rw [if_pos e3]
        by_cases e2 : i = k
        · rw [if_pos e2]; have := h2 a (by omega); omega
        · rw [if_neg e2]; have := h2 i (by omega); omega
      · rw [if_neg e3]
        by_cases e2 : i = k
        · rw [if_pos e2]
          have ej : ¬ j = k := by omega
          rw [if_neg ej]
          exact h3 a j (by omega) (by omega) (by omega)
        · rw [if_neg e2]
          by_cases e4 : j = k
          · rw [if_pos e4]; exact h3 i a (by omega) (by omega) (by omega)
          · rw [if_neg e4]; exact h3 i j (by omega) (by omega) hij
/-- Throws that land as a rearrangement says are a pattern. -/
def LandsAs (n : Nat) (L out : List Int) : Prop := ∀ i, i < out.length → (0 ≤ out.getD i 0 ∧ out.getD i 0 ≤ 15) ∧ ((i : Int) + out.getD i 0) % (n : Int) = L.getD i 0
theorem LandsAs.nil (n : Nat) (L : List Int) : LandsAs n L [] := fun i h => by simp at h
theorem LandsAs.snoc {n : Nat} {L out : List Int} {t : Int} (h : LandsAs n L out) (h0 : 0 ≤ t) (h1 : t ≤ 15) (e : ((out.length : Int) + t) % (n : Int) = L.getD out.length 0) : LandsAs n L (out ++ [t]) := by
  intro i hi
  rw [List.length_append, List.length_singleton] at hi
  rcases Nat.lt_or_eq_of_le (Nat.le_of_lt_succ hi) with k | rfl
  · have e2 : (out ++ [t]).getD i 0 = out.getD i 0 := by rw [List.getD_eq_getElem?_getD, List.getD_eq_getElem?_getD, List.getElem?_append_left k]
    rw [e2]; exact h i k
  · have e2 : (out ++ [t]).getD out.length 0 = t := by rw [List.getD_eq_getElem?_getD, List.getElem?_append_right (Nat.le_refl _)]; simp
    rw [e2]; exact ⟨⟨h0, h1⟩, e⟩
theorem okP_of_lands {n : Nat} {L out : List Int} (hP : Perm n L) (hn1 : 1 ≤ n) (hn2 : n ≤ 12) (hl : out.length = n) (h : LandsAs n L out) : okP out = true := by
  have hth : thOk out = true := thOk_mk (fun x hx => by
    obtain ⟨i, hi⟩ := List.getElem?_of_mem hx
    have := (h i (List.getElem?_eq_some_iff.1 hi).1).1
    rw [List.getD_eq_getElem?_getD, hi] at this
    exact this) (by omega) (by omega)
  unfold okP
  rw [hth, Bool.true_and]
  cases hc : colP out with
  | none => rfl
  | some x =>
    exfalso
    obtain ⟨a, b⟩ := x
    obtain ⟨g1, g2, g3, g4⟩ := col2_some (show col2 (Ld out) out.length 0 = some (a, b) from hc)
    have ha := (h a (by omega)).2
    have hb := (h b (by omega)).2
    unfold Ld at g4
    rw [hl] at g4
    rw [ha, hb] at g4
    exact hP.2.2 a b (by omega) (by omega) (by omega) g4
theorem land_mod {n i : Nat} {l t : Int} (r : Int) (h0 : 0 ≤ l) (h1 : l < n) (ht : t = (l - i) % (n : Int) + r * (n : Int)) : ((i : Int) + t) % (n : Int) = l := by
  have h2 := Int.mul_ediv_add_emod (l - i) (n : Int)
  have e : (i : Int) + t = l + (n : Int) * (r - (l - i) / (n : Int)) := by
    rw [Int.mul_sub, Int.mul_comm (n : Int) r]; omega
  rw [e, Int.add_mul_emod_self_left, Int.emod_eq_of_lt h0 h1]
end Go.Proofs.YtgphkfnobmponaaGreat

/- Contracts of the remainders, and of the numbers of a list at a beat. -/
namespace Go.Proofs.YtgphkfnobmponaaGreat
open Go.RowKit
set_option linter.unusedVariables false

theorem mod_eq (a n : Int) (hn : 1 ≤ n) : (a.tmod n + n) % n = a % n := by
  have h := Int.mul_tdiv_add_tmod a n
  have e : a.tmod n + n = a + n * (1 - a.tdiv n) := by rw [Int.mul_sub]; omega
  rw [e, Int.add_mul_emod_self_left]
theorem tmod_lo (a n : Int) (hn : 1 ≤ n) : -n < a.tmod n ∧ a.tmod n < n := by
  constructor
  · exact Int.lt_tmod_of_pos a (by omega)
  · exact Int.tmod_lt_of_pos a (by omega)
theorem l02Mod_any (a n : Int) (w : World) (h1 : 1 ≤ n) (h2 : n ≤ 1099511627776) :
    Calls Tryz.prog 127 #[.int .i64 a, .int .i64 n] w fun e w' => e = .returned (.int .i64 (a % n)) ∧ w = w' := by
  have h : Hid (a.tmod n % n = a % n) := by show _ = _; rw [← mod_eq a n h1, Int.add_emod_right]
  obtain ⟨t1, t2⟩ := tmod_lo a n h1
  by_cases ha : 0 ≤ a
  · have h3 : Hid ((a % n + n) % n = a % n) := by show _ = _; rw [Int.add_emod_right]; exact Int.emod_emod_of_dvd a (Int.dvd_refl n)
    have h4 : 0 ≤ a % n := Int.emod_nonneg _ (by omega)
    have h5 : a % n < n := Int.emod_lt_of_pos _ (by omega)
    go_enter Tryz.func127, Tryz.ntmps127
    go_wp2
    go_ret
    exact ⟨ret_int h3.out, rfl⟩
  · go_enter Tryz.func127, Tryz.ntmps127
    go_wp2
    go_ret
    exact ⟨ret_int h.out, rfl⟩
end Go.Proofs.YtgphkfnobmponaaGreat

/- Rows of rows of numbers: read, and owned by the call; the laws' own helpers over them. -/
namespace Go.Proofs.YtgphkfnobmponaaGreat
open Go.RowKit
set_option linter.unusedVariables false

theorem inf_row : (Tryz.prog.info? 24).map (fun i => (i.zero, i.size, i.bytes)) = some (some (.slice none 0 0), 1, 24) := by kernel_rfl

/-- Blocks of two rows rise. -/
def Rise (u v : Value) : Prop := ∀ g h, u.ownBlock = some g → v.ownBlock = some h → g < h
/-- A slice of slices of numbers that the call itself made, the rows' blocks below M. -/
def Grid (w : World) (base M : Nat) (v : Value) (rows : List (List Int)) : Prop :=
  ∃ vs : List Value, vs.length = rows.length ∧ w.ownsRow base 24 1 v rows.length vs ∧
    (∀ (j : Nat) (u : Value) (row : List Int), vs[j]? = some u → rows[j]? = some row → w.ownsRow base 2 1 u row.length (ints row) ∧ ∀ g, u.ownBlock = some g → g < M) ∧ vs.Pairwise Rise
/-- A slice of slices of numbers that is read: below block B. -/
def RdG (w : World) (B : Nat) (A : Option Addr) (n : Nat) (rows : List (List Int)) : Prop :=
  rows.length = n ∧ (0 < n → ∃ b off, A = some ⟨b, off, none⟩ ∧ b < B ∧ ∀ (j : Nat) (row : List Int), rows[j]? = some row → ∃ Aj cj, w.cell? ⟨b, off + j, none⟩ = some (.slice Aj row.length cj) ∧ Rd w B 1 Aj row.length (ints row))

section
variable {w w' : World} {B B' n base M : Nat} {A : Option Addr} {v : Value} {rows : List (List Int)}
theorem RdG.len (h : RdG w B A n rows) : rows.length = n := h.1
theorem RdG.keep (h : RdG w B A n rows) (hk : ∀ p : Addr, p.block < B → w'.cell? p = w.cell? p) : RdG w' B A n rows :=
  ⟨h.1, fun hn => by
    obtain ⟨b, off, e, hb, hc⟩ := h.2 hn
    exact ⟨b, off, e, hb, fun j row hj => by
      obtain ⟨Aj, cj, h1, h2⟩ := hc j row hj
      exact ⟨Aj, cj, (hk _ hb).trans h1, h2.keep hk⟩⟩⟩
theorem RdG.more (h : RdG w B A n rows) (hB : B ≤ B') : RdG w B' A n rows :=
  ⟨h.1, fun hn => by
    obtain ⟨b, off, e, hb, hc⟩ := h.2 hn
    exact ⟨b, off, e, Nat.lt_of_lt_of_le hb hB, fun j row hj => by
      obtain ⟨Aj, cj, h1, h2⟩ := hc j row hj
      exact ⟨Aj, cj, h1, h2.more hB⟩⟩⟩
theorem RdG.below {C : Nat} (h : RdG w B A n rows) (hb : Below C w w') (hB : B ≤ C) : RdG w' B A n rows := h.keep fun _ hp => hb.cell (Nat.lt_of_lt_of_le hp hB)
theorem RdG.at_ {i : Nat} (h : RdG w B A n rows) (hi : i < n) :
    ∃ b off row Ai ci, A = some ⟨b, off, none⟩ ∧ b < B ∧ rows[i]? = some row ∧ rows.drop i = row :: rows.drop (i + 1) ∧ w.cell? ⟨b, off + i, none⟩ = some (.slice Ai row.length ci) ∧ Rd w B 1 Ai row.length (ints row) := by
  obtain ⟨b, off, e, hb, hc⟩ := h.2 (by omega)
  have hl : i < rows.length := by have := h.len; omega
  obtain ⟨Ai, ci, h1, h2⟩ := hc i _ (List.getElem?_eq_getElem hl)
  exact ⟨b, off, rows[i], Ai, ci, e, hb, List.getElem?_eq_getElem hl, List.drop_eq_getElem_cons hl, h1, h2⟩
end

/-- A row whose block lies below B stays, whatever is written from B on. -/
theorem own_lo {w w' : World} {B base e sz n : Nat} {v : Value} {xs : List Value} (h : w.ownsRow base e sz v n xs) (hb : Below B w w') (hlt : ∀ g, v.ownBlock = some g → g < B) : w'.ownsRow base e sz v n xs := by
  refine ⟨h.1, ?_⟩
  rcases h.2 with hn | ⟨g, cap, cur, rfl, hg, hh, r⟩
  · exact .inl hn
  · exact .inr ⟨g, cap, cur, rfl, hg, by rw [hb.block g (hlt g rfl)]; exact hh, r⟩

section
variable {w w' : World} {B n base M : Nat} {A : Option Addr} {v : Value} {rows : List (List Int)}
theorem Grid.form (h : Grid w base M v rows) : ∃ A c, v = .slice A rows.length c := by
  obtain ⟨vs, _, h2, _⟩ := h
  exact own_form h2
theorem Grid.nil (w : World) (base M : Nat) : Grid w base M (.slice none 0 0) [] := ⟨[], rfl, World.ownsRow_nil _ _ _ _, fun j u row h => by simp at h, List.Pairwise.nil⟩
theorem Grid.lit (w : World) (M : Nat) {base : Nat} (hb : base ≤ w.heap.size) : Grid (w.alloc (.cells #[] 24)) base M (.slice (some ⟨w.heap.size, 0, none⟩) 0 0) [] :=
  ⟨[], rfl, World.ownsRow_lit _ _ 0 hb (by simp [maxLen]) rfl, fun j u row h => by simp at h, List.Pairwise.nil⟩
theorem Grid.empty (h : w.ownsRow base 24 1 v 0 []) : Grid w base M v [] := ⟨[], rfl, h, fun j u row h => by simp at h, List.Pairwise.nil⟩
theorem Grid.more {base' : Nat} (h : Grid w base M v rows) (hb : base' ≤ base) : Grid w base' M v rows := by
  obtain ⟨vs, h1, h2, h3, h4⟩ := h
  exact ⟨vs, h1, own_more h2 hb, fun j u row a b => ⟨own_more (h3 j u row a b).1 hb, (h3 j u row a b).2⟩, h4⟩
theorem Grid.up {M' : Nat} (h : Grid w base M v rows) (hM : M ≤ M') : Grid w base M' v rows := by
  obtain ⟨vs, h1, h2, h3, h4⟩ := h
  exact ⟨vs, h1, h2, fun j u row a b => ⟨(h3 j u row a b).1, fun g hg => Nat.lt_of_lt_of_le ((h3 j u row a b).2 g hg) hM⟩, h4⟩
theorem Grid.size (h : Grid w base M v rows) : Grid w base w.heap.size v rows := by
  obtain ⟨vs, h1, h2, h3, h4⟩ := h
  exact ⟨vs, h1, h2, fun j u row a b => ⟨(h3 j u row a b).1, fun g hg => ((h3 j u row a b).1.lt g hg).2⟩, h4⟩
theorem Grid.lt (h : Grid w base M v rows) : ∀ g, v.ownBlock = some g → base ≤ g ∧ g < w.heap.size := by
  obtain ⟨vs, h1, h2, h3, h4⟩ := h
  exact h2.lt
theorem Grid.lo (h : Grid w base M v rows) (hb : Below B w w') (hB : w.heap.size ≤ B) : Grid w' base M v rows := by
  obtain ⟨vs, h1, h2, h3, h4⟩ := h
  refine ⟨vs, h1, own_lo h2 hb (fun g hg => ?_), fun j u row a b => ⟨own_lo (h3 j u row a b).1 hb (fun g hg => ?_), (h3 j u row a b).2⟩, h4⟩
  · have := (h2.lt g hg).2; omega
  · have := ((h3 j u row a b).1.lt g hg).2; omega
theorem Grid.below (h : Grid w base M v rows) (hb : Below w.heap.size w w') : Grid w' base M v rows := h.lo hb (Nat.le_refl _)
theorem Grid.read {c : Nat} (h : Grid w base M (.slice A n c) rows) : RdG w w.heap.size A n rows := by
  obtain ⟨vs, h1, h2, h3, h4⟩ := h
  obtain ⟨A', c', e⟩ := own_form h2
  have hn : rows.length = n := by injection e with _ e _; exact e.symm
  rw [hn] at h2 h1
  refine ⟨hn, fun h0 => ?_⟩
  obtain ⟨b, off, eA, hb, hc⟩ := (Rd.of_own h2).2 h0
  refine ⟨b, off, eA, hb, fun j row hj => ?_⟩
  have hj2 : j < rows.length := (List.getElem?_eq_some_iff.1 hj).1
  have hu : vs[j]? = some (vs[j]'(by omega)) := List.getElem?_eq_getElem (by omega)
  have ho := (h3 j _ row hu hj).1
  obtain ⟨Aj, cj, ev⟩ := own_form ho
  have hcc := hc j _ hu
  rw [ev] at ho hcc
  exact ⟨Aj, cj, hcc, Rd.of_own ho⟩
/-- A block of other cells is written: the grid stays. -/
theorem Grid.types {b2 e2 s2 n2 : Nat} {v2 : Value} {xs2 : List Value} (h : Grid w base M v rows) (h2 : w.ownsRow b2 e2 s2 v2 n2 xs2) (ne1 : 2 ≠ e2) (ne2 : 24 ≠ e2) (hg : w.grownBy w' v2.ownBlock) : Grid w' base M v rows := by
  obtain ⟨vs, h1, h3, h4, h5⟩ := h
  exact ⟨vs, h1, own_types h3 h2 ne2 hg, fun j u row a b => ⟨own_types (h4 j u row a b).1 h2 ne1 hg, (h4 j u row a b).2⟩, h5⟩
/-- The grid's own row of rows is written: rows of other elements stay. -/
theorem Grid.other {b2 e2 s2 n2 : Nat} {v2 : Value} {xs2 : List Value} (h : Grid w base M v rows) (h2 : w.ownsRow b2 e2 s2 v2 n2 xs2) (ne : e2 ≠ 24) (hg : w.grownBy w' v.ownBlock) : w'.ownsRow b2 e2 s2 v2 n2 xs2 := by
  obtain ⟨vs, h1, h3, h4, h5⟩ := h
  exact own_types h2 h3 ne hg
/-- A row of numbers from M on is written: the grid stays. -/
theorem Grid.row {v2 : Value} {b2 s2 n2 : Nat} {xs2 : List Value} (h : Grid w base M v rows) (h2 : w.ownsRow b2 2 s2 v2 n2 xs2) (hM : ∀ g, v2.ownBlock = some g → M ≤ g) (hg : w.grownBy w' v2.ownBlock) : Grid w' base M v rows := by
  obtain ⟨vs, h1, h3, h4, h5⟩ := h
  refine ⟨vs, h1, own_types h3 h2 (by decide) hg, fun j u row a b => ⟨(h4 j u row a b).1.kept hg ?_, (h4 j u row a b).2⟩, h5⟩
  have hlt := (h4 j u row a b).2
  cases hb : u.ownBlock with
  | none => exact .inl rfl
  | some g => exact .inr fun e => by have := hM g e.symm; have := hlt g hb; omega
/-- One row more, its block above all of the grid's. -/
theorem Grid.snoc {M' : Nat} {v' u : Value} {row : List Int} {vs : List Value}
    (h1 : vs.length = rows.length) (h2 : w.ownsRow base 24 1 v rows.length vs)
    (h3 : ∀ (j : Nat) (u : Value) (row : List Int), vs[j]? = some u → rows[j]? = some row → w.ownsRow base 2 1 u row.length (ints row) ∧ ∀ g, u.ownBlock = some g → g < M) (h4 : vs.Pairwise Rise)
    (hu : w.ownsRow base 2 1 u row.length (ints row)) (hB : ∀ g, u.ownBlock = some g → M ≤ g ∧ g < M') (hM : M ≤ M')
    (ho : w'.ownsRow base 24 1 v' (rows.length + 1) (vs ++ [u])) (hg : w.grownBy w' v.ownBlock) : Grid w' base M' v' (rows ++ [row]) := by
  have hne : 2 ≠ 24 := by decide
  refine ⟨vs ++ [u], by simp [h1], by simpa using ho, fun j x r a b => ?_, ?_⟩
  · rcases Nat.lt_or_ge j vs.length with hj | hj
    · rw [List.getElem?_append_left hj] at a
      rw [List.getElem?_append_left (by omega)] at b
      exact ⟨own_types (h3 j x r a b).1 h2 hne hg, fun g hx => Nat.lt_of_lt_of_le ((h3 j x r a b).2 g hx) hM⟩
    · rw [List.getElem?_append_right hj] at a
      rw [List.getElem?_append_right (by omega), ← h1] at b
      have h0 : j - vs.length = 0 := by
        rcases Nat.eq_zero_or_pos (j - vs.length) with h0 | h0
        · exact h0
        · rw [List.getElem?_eq_none (by simp; omega)] at a; cases a
      rw [h0] at a b
      simp at a b
      subst a b
      exact ⟨own_types hu h2 hne hg, fun g hx => (hB g hx).2⟩
  · rw [List.pairwise_append]
    refine ⟨h4, List.pairwise_singleton _ _, fun x hx y hy g k hg hk => ?_⟩
    simp at hy
    subst hy
    obtain ⟨j, hj⟩ := List.getElem?_of_mem hx
    have hr : rows[j]? = some (rows[j]'(by have := (List.getElem?_eq_some_iff.1 hj).1; omega)) := List.getElem?_eq_getElem _
    have := (h3 j x _ hj hr).2 g hg
    have := (hB k hk).1
    omega
end

/-- 'append(out, row)', out the call's own. -/
theorem push_row {P : Program} {w : World} {ops : Array Oper} {rest : List Oper} {o : Oper} {a : Act} {Q : Exit → Act → World → Prop}
    {base M : Nat} {v u : Value} {rows : List (List Int)} {row : List Int} (hG : Grid w base M v rows)
    (hu : w.ownsRow base 2 1 u row.length (ints row)) (hum : ∀ g, u.ownBlock = some g → M ≤ g) (hM : M ≤ w.heap.size) (e2 : TypeId)
    {t : TypeId} (ht : P.underlying t = some (.slice 24)) (inf : (P.info? 24).map (fun i => (i.zero, i.size, i.bytes)) = some (some (.slice none 0 0), 1, 24))
    (hgd : o.guard = none) (s x : Operand) (ho : o.op = .call { callee := .builtin .append, args := #[s, x], argTypes := #[t, t] }) (hs : a.eval s = v) (hx : a.eval x = .slice (some ⟨w.heap.size, 0, none⟩) 1 1)
    (hn : rows.length ≤ 1099511627776) (hbase : base ≤ w.heap.size)
    (h : ∀ v' w', Grid w' base w.heap.size v' (rows ++ [row]) → Below base w w' → w.grownBy w' v.ownBlock → wpList P ops Q rest (a.put o.dst v') w') :
    wpList P ops Q (o :: rest) a (w.alloc (.cells #[u] e2)) := by
  obtain ⟨vs, h1, h2, h3, h4⟩ := hG
  refine push_own h2 #[u] e2 ht inf rfl (by omega) hgd s x ho hs hx rfl ?_ hn (by omega) hbase fun v' w' g1 g2 g3 => h v' w' ?_ g2 g3
  · intro y hy
    simp at hy
    subst hy
    obtain ⟨A, c, rfl⟩ := own_form hu
    rfl
  · exact Grid.snoc h1 h2 h3 h4 hu (fun g hg => ⟨hum g hg, (hu.lt g hg).2⟩) hM (by simpa using g1) g3
end Go.Proofs.YtgphkfnobmponaaGreat

/- Copies of lists: 'append(out, list...)', cuts of slices, copyNumbers and l00Own. -/
namespace Go.Proofs.YtgphkfnobmponaaGreat
open Go.RowKit
set_option linter.unusedVariables false

/-- 'append(out, list...)', lists of int64, out the call's own. -/
theorem wp_app_ints {P : Program} {w : World} {o : Oper} {a : Act} {K : Act → World → Prop} {Q : Exit → Act → World → Prop}
    {base B : Nat} {v : Value} {xs : List Int} {e : Nat} (hown : w.ownsRow base e 1 v xs.length (ints xs)) (A : Option Addr) (m c : Nat) (ys : List Int) (hr : Rd w B 1 A m (ints ys)) (hA : A = none → c = 0)
    {t : TypeId} {z : Value} (ht : P.underlying t = some (.slice e)) (inf : (P.info? e).map (fun i => (i.zero, i.size, i.bytes)) = some (some z, 1, 8)) (hz : z.cells.size = 1)
    (s x : Operand) (ho : o.op = .call { callee := .builtin .append, args := #[s, x], argTypes := #[t, t] }) (hs : a.eval s = v) (hx : a.eval x = .slice A m c)
    (hn : xs.length + m ≤ 1099511627776) (hbase : base ≤ w.heap.size)
    (h : ∀ v' w', w'.ownsRow base e 1 v' (xs ++ ys).length (ints (xs ++ ys)) → Below base w w' → w.grownBy w' v.ownBlock → K (a.put o.dst v') w') :
    o.wp P a w K Q := by
  obtain ⟨i0, hi, hz0, hz1, hz2⟩ := info_parts inf
  have hl := hr.len
  cases A with
  | none =>
    have hm : m = 0 := by
      rcases Nat.eq_zero_or_pos m with h0 | h0
      · exact h0
      · obtain ⟨_, _, he, _⟩ := hr.2 h0; cases he
    subst hm
    have hc := hA rfl
    subst hc
    have hy : ys = [] := List.eq_nil_of_length_eq_zero hl
    subst hy
    have hrun := run_append_owned_none (P := P) (w := w) base t o.type e i0 1 ht hi v xs.length _ hown
    unfold Oper.wp
    simp [execOp, ho, resolve, invoke, builtin, hs, hx, hrun, Result.andThen]
    exact h v w (by rw [List.append_nil]; exact hown) (Below.refl _ _) (World.grownBy.refl _ _)
  | some ad =>
    refine wp_append_own w s x t ho base e i0 z 1 8 ht hi hz0 hz1 hz2 hz (by omega) v xs.length _ hs hown ad m c (ints ys) hx (by simp [ints, hl]) ?_ ?_ (by unfold maxLen; omega) (by omega) hbase ?_
    · intro j u hj
      have hjl : j < m := by
        have := (List.getElem?_eq_some_iff.1 hj).1
        simp [ints] at this; omega
      obtain ⟨b, off, he, hb, hc⟩ := hr.2 (by omega)
      injection he with he
      subst he
      have e1 : (⟨b, off, none⟩ : Addr).add j = ⟨b, off + j, none⟩ := by unfold Addr.add; split <;> simp_all
      rw [e1]
      exact hc j u hj
    · intro u hu
      simp only [ints, List.mem_map] at hu
      obtain ⟨y, _, rfl⟩ := hu
      rfl
    · intro v' w' g1 g2 _
      have hlt := hown.lt
      refine h v' w' ?_ ?_ g2
      · rw [List.length_append, hl]
        have e : ints (xs ++ ys) = ints xs ++ ints ys := by simp [ints]
        rw [e]; exact g1
      · exact (Below.refl base w).grown g2 hbase (fun k hk => (hlt k hk).1)
theorem app_ints {P : Program} {w : World} {ops : Array Oper} {rest : List Oper} {o : Oper} {a : Act} {Q : Exit → Act → World → Prop}
    {base B : Nat} {v : Value} {xs : List Int} {e : Nat} (hown : w.ownsRow base e 1 v xs.length (ints xs)) (A : Option Addr) (m c : Nat) (ys : List Int) (hr : Rd w B 1 A m (ints ys)) (hA : A = none → c = 0)
    {t : TypeId} {z : Value} (ht : P.underlying t = some (.slice e)) (inf : (P.info? e).map (fun i => (i.zero, i.size, i.bytes)) = some (some z, 1, 8)) (hz : z.cells.size = 1)
    (hgd : o.guard = none) (s x : Operand) (ho : o.op = .call { callee := .builtin .append, args := #[s, x], argTypes := #[t, t] }) (hs : a.eval s = v) (hx : a.eval x = .slice A m c)
    (hn : xs.length + m ≤ 1099511627776) (hbase : base ≤ w.heap.size)
    (h : ∀ v' w', w'.ownsRow base e 1 v' (xs ++ ys).length (ints (xs ++ ys)) → Below base w w' → w.grownBy w' v.ownBlock → wpList P ops Q rest (a.put o.dst v') w') :
    wpList P ops Q (o :: rest) a w :=
  wpList_plain hgd fun K hK => wp_app_ints hown A m c ys hr hA ht inf hz s x ho hs hx hn hbase fun v' w' h1 h2 h3 => hK _ _ (h v' w' h1 h2 h3)
/-- The same as a step of a region that draws its order. -/
theorem step_app_ints {P : Program} {ops : Array Oper} {o : Oper} {a : Act} {w : World} {K : Act → World → Prop} {Q : Exit → Act → World → Prop} {E : Prop}
    {base B : Nat} {v : Value} {xs : List Int} {e : Nat} (hown : w.ownsRow base e 1 v xs.length (ints xs)) (A : Option Addr) (m c : Nat) (ys : List Int) (hr : Rd w B 1 A m (ints ys)) (hA : A = none → c = 0)
    {t : TypeId} {z : Value} (ht : P.underlying t = some (.slice e)) (inf : (P.info? e).map (fun i => (i.zero, i.size, i.bytes)) = some (some z, 1, 8)) (hz : z.cells.size = 1)
    (hgd : o.guard = none) (s x : Operand) (ho : o.op = .call { callee := .builtin .append, args := #[s, x], argTypes := #[t, t] }) (hs : a.eval s = v) (hx : a.eval x = .slice A m c)
    (hn : xs.length + m ≤ 1099511627776) (hbase : base ≤ w.heap.size)
    (h : ∀ v' w', w'.ownsRow base e 1 v' (xs ++ ys).length (ints (xs ++ ys)) → Below base w w' → w.grownBy w' v.ownBlock → K (a.put o.dst v') w') :
    if Region.wanted o (yielded ops a.tmps) = true then Oper.wp P o a w K Q else E := by
  have hw : Region.wanted o (yielded ops a.tmps) = true := by simp [Region.wanted, hgd]
  rw [if_pos hw]
  exact wp_app_ints hown A m c ys hr hA ht inf hz s x ho hs hx hn hbase h

theorem own_form2 {w : World} {base e sz n : Nat} {v : Value} {xs : List Value} (h : w.ownsRow base e sz v n xs) : ∃ A c, v = .slice A n c ∧ (A = none → c = 0) ∧ n ≤ c := by
  rcases h.2 with ⟨rfl, rfl⟩ | ⟨g, cap, cur, rfl, hge, hh, r⟩
  · exact ⟨none, 0, rfl, fun _ => rfl, Nat.le_refl _⟩
  · exact ⟨_, _, rfl, fun h => (by cases h), by first | exact r.1 | omega | simp_all⟩

/-- A part of a slice. -/
theorem Rd.cut {w : World} {B n i k : Nat} {b off : Nat} {xs : List Int} (h : Rd w B 1 (some ⟨b, off, none⟩) n (ints xs)) (hik : i ≤ k) (hk : k ≤ n) : Rd w B 1 (some ⟨b, off + i, none⟩) (k - i) (ints ((xs.take k).drop i)) := by
  have hl := h.len
  refine ⟨by simp [ints]; omega, fun h0 => ?_⟩
  obtain ⟨b', off', he, hb, hc⟩ := h.2 (by omega)
  injection he with he
  injection he with e1 e2
  subst e1 e2
  refine ⟨b, off + i, rfl, hb, fun j u hu => ?_⟩
  have hj : j < k - i := by
    have := (List.getElem?_eq_some_iff.1 hu).1
    simp [ints] at this; omega
  have hu2 : (ints xs)[i + j]? = some u := by
    rw [← hu]
    simp only [ints, List.getElem?_map, List.getElem?_drop, List.getElem?_take]
    rw [if_pos (by omega)]
  have := hc (i + j) u hu2
  rw [show off + i + j = off + (i + j) by omega]
  exact this
theorem l00Own_any (A : Option Addr) (n c : Nat) (p : List Int) (w : World) (hn : n ≤ 1099511627776) (hA : A = none → c = 0) (hr : Rd w w.heap.size 1 A n (ints p)) :
    Calls Tryz.prog 141 #[.slice A n c] w fun e w' => ∃ v, e = .returned v ∧ w'.ownsRow w.heap.size 2 1 v n (ints p) ∧ Below w.heap.size w w' := by
  have hl := hr.len
  go_enter Tryz.func141, Tryz.ntmps141
  go_wp2_with (at_builtin; refine app_ints (xs := []) (World.ownsRow_lit (base := w.heap.size) w #[] (e := 2) (size := 1) 0 (by omega) (by simp [maxLen]) rfl) A n c p (hr.alloc (Nat.le_refl _) _) hA Tryz.underlying24 inf_int rfl rfl _ _ rfl rfl rfl (by simp; omega) (by simp) ?_; intro v1 w1 ho1 hb1 hg1)
  go_ret
  refine ⟨_, rfl, ?_, (by repeat' (first | exact Below.refl _ _ | (with_reducible first | assumption | exact Nat.le_refl _ | refine Below.alloc ?_ ?_ _ | refine Below.setCell ?_ ?_ _ | refine Below.drew ?_ | refine below_drewN ?_ _) | refine Below.trans ?_ (Below.mono (by assumption) ?_) | exact Below.size (by assumption) | omega | go_size | (simp at *; omega)))⟩
  simp only [List.nil_append, hl] at ho1
  exact ho1
end Go.Proofs.YtgphkfnobmponaaGreat

/- Contracts of DrawNoteName and DrawFaultName. -/
namespace Go.Proofs.YtgphkfnobmponaaGreat
open Go.RowKit
set_option linter.unusedVariables false

theorem DrawNoteName_any (A : Option Addr) (n c : Nat) (xs : List Int) (w : World) (hn : n ≤ 1099511627776) (hx : ∀ x ∈ xs, 0 ≤ x ∧ x ≤ 255) (hr : Rd w w.heap.size 1 A n (xs.map (Value.int .u8))) :
    Calls Tryz.prog 12 #[.slice A n c] w fun e w' => (∃ x : Int, e = .returned (.int .i64 x) ∧ -1 ≤ x ∧ x ≤ 5) ∧ Below w.heap.size w w' := by
  have h0 := hid (l00From_any A n c xs w hn hx hr)
  clear hx hr
  go_enter Tryz.func12, Tryz.ntmps12
  go_wp2_with fail
  refine h0.out.mono ?_
  rintro e w1 ⟨rfl, hs1, hb1⟩
  have z1 := hb1.size
  have l1 := hs1.lt
  clear h0
  go_wp2_with fail
  refine (pick_src _ A n c 0 xs 7 w1 (by omega) (by omega) hs1).mono ?_
  rintro e w2 ⟨⟨x, x0, x1, rfl⟩, hs2, hg2⟩
  have hB2 : Below w.heap.size w w2 := hb1.grown hg2 z1 (fun g h => by simp at h; omega)
  have hx1 : x ≤ 6 := by omega
  clear x1
  go_wp2
  go_ret
  exact ⟨⟨_, rfl, by omega, by omega⟩, hB2⟩
theorem DrawFaultName_any (A : Option Addr) (n c : Nat) (xs : List Int) (w : World) (hn : n ≤ 1099511627776) (hx : ∀ x ∈ xs, 0 ≤ x ∧ x ≤ 255) (hr : Rd w w.heap.size 1 A n (xs.map (Value.int .u8))) :
    Calls Tryz.prog 13 #[.slice A n c] w fun e w' => (∃ x : Int, e = .returned (.int .i64 x) ∧ -1 ≤ x ∧ x ≤ 7) ∧ Below w.heap.size w w' := by
  have h0 := hid (l00From_any A n c xs w hn hx hr)
  clear hx hr
  go_enter Tryz.func13, Tryz.ntmps13
  go_wp2_with fail
  refine h0.out.mono ?_
  rintro e w1 ⟨rfl, hs1, hb1⟩
  have z1 := hb1.size
  have l1 := hs1.lt
  clear h0
  go_wp2_with fail
  refine (pick_src _ A n c 0 xs 9 w1 (by omega) (by omega) hs1).mono ?_
  rintro e w2 ⟨⟨x, x0, x1, rfl⟩, hs2, hg2⟩
  have hB2 : Below w.heap.size w w2 := hb1.grown hg2 z1 (fun g h => by simp at h; omega)
  have hx1 : x ≤ 8 := by omega
  clear x1
  go_wp2
  go_ret
  exact ⟨⟨_, rfl, by omega, by omega⟩, hB2⟩
end Go.Proofs.YtgphkfnobmponaaGreat

/- Contracts of the laws' own helpers f6big and f6ints. -/
namespace Go.Proofs.YtgphkfnobmponaaGreat
open Go.RowKit
set_option linter.unusedVariables false

theorem f6big_any (A : Option Addr) (n c : Nat) (w : World) (hn : n ≤ 9223372036854775807) :
    Calls Tryz.prog 4 #[.slice A n c] w fun e w' => e = .returned (.bool (decide (4096 < n))) ∧ w = w' := by
  go_enter Tryz.func4, Tryz.ntmps4
  go_wp2
  go_ret
  exact ⟨ret_bool (by first | (simp; done) | (rw [Bool.eq_iff_iff]; simp; omega)), rfl⟩
end Go.Proofs.YtgphkfnobmponaaGreat
