/- Drawn rows of rows of numbers: read only, their blocks between two bounds; made from a grid, from a grid with one row stored anew, cut to a prefix. -/
import Derived.Test.YtlbhfjbbkkkldaaGl
import Derived.Test.YtlbhfjbbkkkldaaDw
namespace Go.Proofs.Ytlbhfjbbkkkldaa
open Go.RowKit
set_option linter.unusedVariables false

/-- Cells that are read: their block lies from C on and below B. -/
def RdL (w : World) (C B : Nat) (A : Option Addr) (n : Nat) (us : List Value) : Prop :=
  us.length = n ∧ (0 < n → ∃ b off, A = some ⟨b, off, none⟩ ∧ C ≤ b ∧ b < B ∧ ∀ (j : Nat) (u : Value), us[j]? = some u → w.cell? ⟨b, off + j, none⟩ = some u)
section
variable {w w' : World} {C C' B B' n : Nat} {A : Option Addr} {us : List Value}
theorem RdL.rd (h : RdL w C B A n us) : Rd w B 1 A n us :=
  ⟨by rw [Nat.mul_one]; exact h.1, fun hn => by
    obtain ⟨b, off, e, _, hb, hc⟩ := h.2 hn
    exact ⟨b, off, e, hb, hc⟩⟩
theorem RdL.keep (h : RdL w C B A n us) (hk : ∀ p : Addr, C ≤ p.block → p.block < B → w'.cell? p = w.cell? p) : RdL w' C B A n us :=
  ⟨h.1, fun hn => by
    obtain ⟨b, off, e, h0, hb, hc⟩ := h.2 hn
    exact ⟨b, off, e, h0, hb, fun j u hu => (hk _ h0 hb).trans (hc j u hu)⟩⟩
theorem RdL.more (h : RdL w C B A n us) (hC : C' ≤ C) (hB : B ≤ B') : RdL w C' B' A n us :=
  ⟨h.1, fun hn => by
    obtain ⟨b, off, e, h0, hb, hc⟩ := h.2 hn
    exact ⟨b, off, e, Nat.le_trans hC h0, Nat.lt_of_lt_of_le hb hB, hc⟩⟩
theorem RdL.nil (w : World) (C B : Nat) : RdL w C B none 0 [] := ⟨rfl, fun h => absurd h (by omega)⟩
theorem RdL.of_own {base c : Nat} {e : TypeId} (h : w.ownsRow base e 1 (.slice A n c) n us) : RdL w base w.heap.size A n us := by
  refine ⟨by have := h.1; simpa using this, fun hn => ?_⟩
  obtain ⟨b, off, e1, hb, hc⟩ := (Rd.of_own h).2 hn
  refine ⟨b, off, e1, ?_, hb, hc⟩
  obtain ⟨g, c', e2, hge, _⟩ := own_block h hn
  injection e2 with e2 _ _
  rw [e1] at e2
  injection e2 with e2
  injection e2 with e2 _ _
  omega
end
/-- Rows of numbers that are read: all blocks lie from C on and below B. -/
def RdH (w : World) (C B : Nat) (A : Option Addr) (n : Nat) (rows : List (List Int)) : Prop :=
  rows.length = n ∧ (0 < n → ∃ b off, A = some ⟨b, off, none⟩ ∧ C ≤ b ∧ b < B ∧ ∀ (j : Nat) (row : List Int), rows[j]? = some row → ∃ Aj cj, w.cell? ⟨b, off + j, none⟩ = some (.slice Aj row.length cj) ∧ RdL w C B Aj row.length (ints row))
section
variable {w w' : World} {C C' B B' n : Nat} {A : Option Addr} {rows : List (List Int)}
theorem RdH.len (h : RdH w C B A n rows) : rows.length = n := h.1
theorem RdH.rd (h : RdH w C B A n rows) : RdG w B A n rows :=
  ⟨h.1, fun hn => by
    obtain ⟨b, off, e, _, hb, hc⟩ := h.2 hn
    exact ⟨b, off, e, hb, fun j row hj => by
      obtain ⟨Aj, cj, h1, h2⟩ := hc j row hj
      exact ⟨Aj, cj, h1, h2.rd⟩⟩⟩
theorem RdH.keep (h : RdH w C B A n rows) (hk : ∀ p : Addr, C ≤ p.block → p.block < B → w'.cell? p = w.cell? p) : RdH w' C B A n rows :=
  ⟨h.1, fun hn => by
    obtain ⟨b, off, e, h0, hb, hc⟩ := h.2 hn
    exact ⟨b, off, e, h0, hb, fun j row hj => by
      obtain ⟨Aj, cj, h1, h2⟩ := hc j row hj
      exact ⟨Aj, cj, (hk _ h0 hb).trans h1, h2.keep hk⟩⟩⟩
theorem RdH.more (h : RdH w C B A n rows) (hC : C' ≤ C) (hB : B ≤ B') : RdH w C' B' A n rows :=
  ⟨h.1, fun hn => by
    obtain ⟨b, off, e, h0, hb, hc⟩ := h.2 hn
    exact ⟨b, off, e, Nat.le_trans hC h0, Nat.lt_of_lt_of_le hb hB, fun j row hj => by
      obtain ⟨Aj, cj, h1, h2⟩ := hc j row hj
      exact ⟨Aj, cj, h1, h2.more hC hB⟩⟩⟩
theorem RdH.below {D : Nat} (h : RdH w C B A n rows) (hb : Below D w w') (hB : B ≤ D) : RdH w' C B A n rows := h.keep fun _ _ hp => hb.cell (Nat.lt_of_lt_of_le hp hB)
/-- A source below all rows is asked: the rows stay. -/
theorem RdH.grown {g : Nat} (h : RdH w C B A n rows) (hg : w.grownBy w' (some g)) (hC : g < C) (hB : B ≤ w.heap.size) : RdH w' C B A n rows :=
  h.keep fun p h0 hp => by
    have := hg.block p.block (by omega) (by intro e; injection e with e; omega)
    unfold World.cell?
    rw [this]
theorem RdH.setCell (h : RdH w C B A n rows) {p : Addr} (hp : p.block < C ∨ B ≤ p.block) (u : Value) : RdH (w.setCell p u) C B A n rows :=
  h.keep fun q h0 hq => by
    rcases hp with hp | hp
    · unfold World.cell?
      rw [Below.heap_setCell w p u q.block (by omega)]
    · exact (Below.setCell (Below.refl B w) hp u).cell hq
/-- A prefix. -/
theorem RdH.cut {k : Nat} (h : RdH w C B A n rows) (hk : k ≤ n) : RdH w C B A k (rows.take k) :=
  ⟨by rw [List.length_take, h.1]; omega, fun h0 => by
    obtain ⟨b, off, e, h1, hb, hc⟩ := h.2 (by omega)
    exact ⟨b, off, e, h1, hb, fun j row hj => hc j row (by
      rw [List.getElem?_take] at hj
      split at hj
      · exact hj
      · cases hj)⟩⟩
theorem RdH.tail {b off : Nat} (h : RdH w C B (some ⟨b, off, none⟩) n rows) (hn : 1 ≤ n) : RdH w C B (some ⟨b, off + 1, none⟩) (n - 1) (rows.drop 1) :=
  ⟨by rw [List.length_drop, h.1], fun h0 => by
    obtain ⟨b', off', e, h1, hb, hc⟩ := h.2 (by omega)
    injection e with e
    injection e with e1 e2
    subst e1 e2
    exact ⟨b, off + 1, rfl, h1, hb, fun j row hj => by
      rw [List.getElem?_drop] at hj
      have := hc (1 + j) row hj
      rw [show off + 1 + j = off + (1 + j) by omega]
      exact this⟩⟩
end
theorem Grid.rdH {w : World} {base M n c : Nat} {A : Option Addr} {rows : List (List Int)} (h : Grid w base M (.slice A n c) rows) : RdH w base w.heap.size A n rows := by
  obtain ⟨vs, h1, h2, h3, h4⟩ := h
  obtain ⟨A', c', e⟩ := own_form h2
  have hn : rows.length = n := by injection e with _ e _; exact e.symm
  rw [hn] at h2 h1
  refine ⟨hn, fun h0 => ?_⟩
  obtain ⟨b, off, eA, h9, hb, hc⟩ := (RdL.of_own h2).2 h0
  refine ⟨b, off, eA, h9, hb, fun j row hj => ?_⟩
  have hj2 : j < rows.length := (List.getElem?_eq_some_iff.1 hj).1
  have hu : vs[j]? = some (vs[j]'(by omega)) := List.getElem?_eq_getElem (by omega)
  have ho := (h3 j _ row hu hj).1
  obtain ⟨Aj, cj, ev⟩ := own_form ho
  have hcc := hc j _ hu
  rw [ev] at ho hcc
  exact ⟨Aj, cj, hcc, RdL.of_own ho⟩
/-- One row of a grid, and what is read where it is stored anew. -/
theorem Grid.put {w : World} {base M i n c : Nat} {A : Option Addr} {rows : List (List Int)} {row : List Int} (h : Grid w base M (.slice A n c) rows) (hi : rows[i]? = some row) :
    ∃ b Ai ci, A = some ⟨b, 0, none⟩ ∧ base ≤ b ∧ b < w.heap.size ∧ n = rows.length ∧ w.cell? ⟨b, i, none⟩ = some (.slice Ai row.length ci) ∧ w.ownsRow base 2 1 (.slice Ai row.length ci) row.length (ints row) ∧
      ∀ w' A' row' c', w.grownBy w' (Value.slice Ai row.length ci).ownBlock → w'.ownsRow base 2 1 (.slice A' row'.length c') row'.length (ints row') → w'.cell? ⟨b, i, none⟩ = some (.slice Ai row.length ci) ∧ w'.frozen? ⟨b, i, none⟩ = false ∧ RdH (w'.setCell ⟨b, i, none⟩ (.slice A' row'.length c')) base w'.heap.size A n (rows.set i row') := by
  obtain ⟨vs, h1, h2, h3, h4⟩ := h
  have hil : i < rows.length := (List.getElem?_eq_some_iff.1 hi).1
  have hu : vs[i]? = some (vs[i]'(by omega)) := List.getElem?_eq_getElem (by omega)
  generalize vs[i]'(by omega) = u at hu
  obtain ⟨ho, hlt⟩ := h3 i u row hu hi
  obtain ⟨Ai, ci, rfl⟩ := own_form ho
  obtain ⟨g, cap, e, hge, hgl⟩ := own_block h2 (by omega)
  injection e with eA en ec
  subst eA en ec
  refine ⟨g, Ai, ci, rfl, hge, hgl, rfl, (h2.cellAt i (by omega)).trans hu, ho, fun w' A' row' c' hgr ho' => ?_⟩
  have k2 := own_types h2 ho (by decide) hgr
  have kc := fun j hj => k2.cellAt j hj
  obtain ⟨k3, g3⟩ := k2.stored i (.slice A' row'.length c')
  refine ⟨(kc i (by omega)).trans hu, k2.frozenAt i, by rw [List.length_set], fun _ => ⟨g, 0, rfl, hge, (k2.lt g rfl).2, fun j r hj => ?_⟩⟩
  have hjl : j < rows.length := by have := (List.getElem?_eq_some_iff.1 hj).1; rwa [List.length_set] at this
  have ot : ∀ {v2 : Value} {n2 : Nat} {xs2 : List Value}, w'.ownsRow base 2 1 v2 n2 xs2 → (w'.setCell ⟨g, i, none⟩ (.slice A' row'.length c')).ownsRow base 2 1 v2 n2 xs2 := fun h => own_types h k2 (by decide) g3
  have hz : (w'.setCell ⟨g, i, none⟩ (.slice A' row'.length c')).heap.size = w'.heap.size := by simp
  by_cases hij : i = j
  · subst hij
    rw [List.getElem?_set_self hil] at hj
    obtain rfl : row' = r := Option.some.inj hj
    refine ⟨A', c', ?_, ?_⟩
    · rw [Nat.zero_add, k3.cellAt i (by omega), List.getElem?_set_self (by omega)]
    · have := RdL.of_own (ot ho')
      rw [hz] at this
      exact this
  · rw [List.getElem?_set_ne hij] at hj
    have hx : vs[j]? = some (vs[j]'(by omega)) := List.getElem?_eq_getElem (by omega)
    generalize vs[j]'(by omega) = x at hx
    have hox := (h3 j x r hx hj).1
    obtain ⟨Aj, cj, rfl⟩ := own_form hox
    have hkx : w'.ownsRow base 2 1 (.slice Aj r.length cj) r.length (ints r) := hox.kept hgr (by
      cases hb : (Value.slice Aj r.length cj).ownBlock with
      | none => exact .inl rfl
      | some q =>
        refine .inr fun e => ?_
        obtain ⟨hj2, ej⟩ := List.getElem?_eq_some_iff.1 hx
        obtain ⟨hi2, ei⟩ := List.getElem?_eq_some_iff.1 hu
        rcases Nat.lt_or_gt_of_ne hij with k | k
        · have := List.pairwise_iff_getElem.1 h4 i j hi2 hj2 k
          rw [ei, ej] at this
          have := this q q e.symm hb
          omega
        · have := List.pairwise_iff_getElem.1 h4 j i hj2 hi2 k
          rw [ei, ej] at this
          have := this q q hb e.symm
          omega)
    refine ⟨Aj, cj, ?_, ?_⟩
    · rw [Nat.zero_add, k3.cellAt j (by omega), List.getElem?_set_ne hij]; exact hx
    · have := RdL.of_own (ot hkx)
      rw [hz] at this
      exact this
/-- The same, and what is read where the row itself is written. -/
theorem Grid.put0 {w : World} {base M i n c : Nat} {A : Option Addr} {rows : List (List Int)} {row : List Int} (h : Grid w base M (.slice A n c) rows) (hi : rows[i]? = some row) :
    ∃ b Ai ci, A = some ⟨b, 0, none⟩ ∧ base ≤ b ∧ b < w.heap.size ∧ n = rows.length ∧ w.cell? ⟨b, i, none⟩ = some (.slice Ai row.length ci) ∧ w.ownsRow base 2 1 (.slice Ai row.length ci) row.length (ints row) ∧
      (∀ w' A' row' c', w.grownBy w' (Value.slice Ai row.length ci).ownBlock → w'.ownsRow base 2 1 (.slice A' row'.length c') row'.length (ints row') → w'.cell? ⟨b, i, none⟩ = some (.slice Ai row.length ci) ∧ w'.frozen? ⟨b, i, none⟩ = false ∧ RdH (w'.setCell ⟨b, i, none⟩ (.slice A' row'.length c')) base w'.heap.size A n (rows.set i row')) ∧
      (∀ w' row', row'.length = row.length → w.grownBy w' (Value.slice Ai row.length ci).ownBlock → w'.ownsRow base 2 1 (.slice Ai row.length ci) row.length (ints row') → RdH w' base w'.heap.size A n (rows.set i row')) := by
  obtain ⟨b, Ai, ci, e1, e2, e3, e4, e5, e6, e7⟩ := h.put hi
  obtain ⟨b', c', Ai', ci', f1, f2, f3, f4⟩ := h.mark hi
  subst e4
  rw [e1] at f1
  injection f1 with f1 _ _
  injection f1 with f1
  injection f1 with f1 _ _
  subst f1
  rw [e5] at f2
  injection f2 with f2
  injection f2 with f2 _ f5
  subst f2 f5
  refine ⟨b, Ai, ci, e1, e2, e3, rfl, e5, e6, e7, fun w' row' hl hg ho => ?_⟩
  exact (f4 w' row' hl hg ho).1.rdH
end Go.Proofs.Ytlbhfjbbkkkldaa
