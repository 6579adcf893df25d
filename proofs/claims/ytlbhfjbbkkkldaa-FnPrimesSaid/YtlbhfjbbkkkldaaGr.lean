/- Rows of rows of numbers: read, and owned by the call; the laws' own helpers over them. -/
import Derived.Test.YtlbhfjbbkkkldaaProg
import Derived.Test.YtlbhfjbbkkkldaaC
namespace Go.Proofs.Ytlbhfjbbkkkldaa
open Go.RowKit
set_option linter.unusedVariables false

theorem inf_row : (Try.prog.info? 43).map (fun i => (i.zero, i.size, i.bytes)) = some (some (.slice none 0 0), 1, 24) := by kernel_rfl

/-- Blocks of two rows rise. -/
def Rise (u v : Value) : Prop := ∀ g h, u.ownBlock = some g → v.ownBlock = some h → g < h
/-- A slice of slices of numbers that the call itself made, the rows' blocks below M. -/
def Grid (w : World) (base M : Nat) (v : Value) (rows : List (List Int)) : Prop :=
  ∃ vs : List Value, vs.length = rows.length ∧ w.ownsRow base 43 1 v rows.length vs ∧
    (∀ (j : Nat) (u : Value) (row : List Int), vs[j]? = some u → rows[j]? = some row → w.ownsRow base 2 1 u row.length (ints row) ∧ ∀ g, u.ownBlock = some g → g < M) ∧ vs.Pairwise Rise
/-- A slice of slices of numbers that is read: below block B. -/
def RdG (w : World) (B : Nat) (A : Option Addr) (n : Nat) (rows : List (List Int)) : Prop :=
  rows.length = n ∧ (0 < n → ∃ b off, A = some ⟨b, off, none⟩ ∧ b < B ∧ ∀ (j : Nat) (row : List Int), rows[j]? = some row → ∃ Aj cj, w.cell? ⟨b, off + j, none⟩ = some (.slice Aj row.length cj) ∧ Rd w B 1 Aj row.length (ints row))

section
variable {w w' : World} {B B' n base M : Nat} {A : Option Addr} {v : Value} {rows : List (List Int)}
theorem RdG.len (h : RdG w B A n rows) : rows.length = n := h.1
theorem RdG.keep (h : RdG w B A n rows) (hk : ∀ p : Addr, p.block < B → w'.cell? p = w.cell? p) : RdG w' B A n rows :=
  ⟨h.1, fun hn => by
    obtain ⟨b, off, e, hb, hc⟩ := h.2 hn
    exact ⟨b, off, e, hb, fun j row hj => by
      obtain ⟨Aj, cj, h1, h2⟩ := hc j row hj
      exact ⟨Aj, cj, (hk _ hb).trans h1, h2.keep hk⟩⟩⟩
theorem RdG.more (h : RdG w B A n rows) (hB : B ≤ B') : RdG w B' A n rows :=
  ⟨h.1, fun hn => by
    obtain ⟨b, off, e, hb, hc⟩ := h.2 hn
    exact ⟨b, off, e, Nat.lt_of_lt_of_le hb hB, fun j row hj => by
      obtain ⟨Aj, cj, h1, h2⟩ := hc j row hj
      exact ⟨Aj, cj, h1, h2.more hB⟩⟩⟩
theorem RdG.below {C : Nat} (h : RdG w B A n rows) (hb : Below C w w') (hB : B ≤ C) : RdG w' B A n rows := h.keep fun _ hp => hb.cell (Nat.lt_of_lt_of_le hp hB)
theorem RdG.at_ {i : Nat} (h : RdG w B A n rows) (hi : i < n) :
    ∃ b off row Ai ci, A = some ⟨b, off, none⟩ ∧ b < B ∧ rows[i]? = some row ∧ rows.drop i = row :: rows.drop (i + 1) ∧ w.cell? ⟨b, off + i, none⟩ = some (.slice Ai row.length ci) ∧ Rd w B 1 Ai row.length (ints row) := by
  obtain ⟨b, off, e, hb, hc⟩ := h.2 (by omega)
  have hl : i < rows.length := by have := h.len; omega
  obtain ⟨Ai, ci, h1, h2⟩ := hc i _ (List.getElem?_eq_getElem hl)
  exact ⟨b, off, rows[i], Ai, ci, e, hb, List.getElem?_eq_getElem hl, List.drop_eq_getElem_cons hl, h1, h2⟩
end

/-- A row whose block lies below B stays, whatever is written from B on. -/
theorem own_lo {w w' : World} {B base e sz n : Nat} {v : Value} {xs : List Value} (h : w.ownsRow base e sz v n xs) (hb : Below B w w') (hlt : ∀ g, v.ownBlock = some g → g < B) : w'.ownsRow base e sz v n xs := by
  refine ⟨h.1, ?_⟩
  rcases h.2 with hn | ⟨g, cap, cur, rfl, hg, hh, r⟩
  · exact .inl hn
  · exact .inr ⟨g, cap, cur, rfl, hg, by rw [hb.block g (hlt g rfl)]; exact hh, r⟩

section
variable {w w' : World} {B n base M : Nat} {A : Option Addr} {v : Value} {rows : List (List Int)}
theorem Grid.form (h : Grid w base M v rows) : ∃ A c, v = .slice A rows.length c := by
  obtain ⟨vs, _, h2, _⟩ := h
  exact own_form h2
theorem Grid.nil (w : World) (base M : Nat) : Grid w base M (.slice none 0 0) [] := ⟨[], rfl, World.ownsRow_nil _ _ _ _, fun j u row h => by simp at h, List.Pairwise.nil⟩
theorem Grid.lit (w : World) (M : Nat) {base : Nat} (hb : base ≤ w.heap.size) : Grid (w.alloc (.cells #[] 43)) base M (.slice (some ⟨w.heap.size, 0, none⟩) 0 0) [] :=
  ⟨[], rfl, World.ownsRow_lit _ _ 0 hb (by simp [maxLen]) rfl, fun j u row h => by simp at h, List.Pairwise.nil⟩
theorem Grid.empty (h : w.ownsRow base 43 1 v 0 []) : Grid w base M v [] := ⟨[], rfl, h, fun j u row h => by simp at h, List.Pairwise.nil⟩
theorem Grid.more {base' : Nat} (h : Grid w base M v rows) (hb : base' ≤ base) : Grid w base' M v rows := by
  obtain ⟨vs, h1, h2, h3, h4⟩ := h
  exact ⟨vs, h1, own_more h2 hb, fun j u row a b => ⟨own_more (h3 j u row a b).1 hb, (h3 j u row a b).2⟩, h4⟩
theorem Grid.up {M' : Nat} (h : Grid w base M v rows) (hM : M ≤ M') : Grid w base M' v rows := by
  obtain ⟨vs, h1, h2, h3, h4⟩ := h
  exact ⟨vs, h1, h2, fun j u row a b => ⟨(h3 j u row a b).1, fun g hg => Nat.lt_of_lt_of_le ((h3 j u row a b).2 g hg) hM⟩, h4⟩
theorem Grid.size (h : Grid w base M v rows) : Grid w base w.heap.size v rows := by
  obtain ⟨vs, h1, h2, h3, h4⟩ := h
  exact ⟨vs, h1, h2, fun j u row a b => ⟨(h3 j u row a b).1, fun g hg => ((h3 j u row a b).1.lt g hg).2⟩, h4⟩
theorem Grid.lt (h : Grid w base M v rows) : ∀ g, v.ownBlock = some g → base ≤ g ∧ g < w.heap.size := by
  obtain ⟨vs, h1, h2, h3, h4⟩ := h
  exact h2.lt
theorem Grid.lo (h : Grid w base M v rows) (hb : Below B w w') (hB : w.heap.size ≤ B) : Grid w' base M v rows := by
  obtain ⟨vs, h1, h2, h3, h4⟩ := h
  refine ⟨vs, h1, own_lo h2 hb (fun g hg => ?_), fun j u row a b => ⟨own_lo (h3 j u row a b).1 hb (fun g hg => ?_), (h3 j u row a b).2⟩, h4⟩
  · have := (h2.lt g hg).2; omega
  · have := ((h3 j u row a b).1.lt g hg).2; omega
theorem Grid.below (h : Grid w base M v rows) (hb : Below w.heap.size w w') : Grid w' base M v rows := h.lo hb (Nat.le_refl _)
theorem Grid.read {c : Nat} (h : Grid w base M (.slice A n c) rows) : RdG w w.heap.size A n rows := by
  obtain ⟨vs, h1, h2, h3, h4⟩ := h
  obtain ⟨A', c', e⟩ := own_form h2
  have hn : rows.length = n := by injection e with _ e _; exact e.symm
  rw [hn] at h2 h1
  refine ⟨hn, fun h0 => ?_⟩
  obtain ⟨b, off, eA, hb, hc⟩ := (Rd.of_own h2).2 h0
  refine ⟨b, off, eA, hb, fun j row hj => ?_⟩
  have hj2 : j < rows.length := (List.getElem?_eq_some_iff.1 hj).1
  have hu : vs[j]? = some (vs[j]'(by omega)) := List.getElem?_eq_getElem (by omega)
  have ho := (h3 j _ row hu hj).1
  obtain ⟨Aj, cj, ev⟩ := own_form ho
  have hcc := hc j _ hu
  rw [ev] at ho hcc
  exact ⟨Aj, cj, hcc, Rd.of_own ho⟩
/-- A block of other cells is written: the grid stays. -/
theorem Grid.types {b2 e2 s2 n2 : Nat} {v2 : Value} {xs2 : List Value} (h : Grid w base M v rows) (h2 : w.ownsRow b2 e2 s2 v2 n2 xs2) (ne1 : 2 ≠ e2) (ne2 : 43 ≠ e2) (hg : w.grownBy w' v2.ownBlock) : Grid w' base M v rows := by
  obtain ⟨vs, h1, h3, h4, h5⟩ := h
  exact ⟨vs, h1, own_types h3 h2 ne2 hg, fun j u row a b => ⟨own_types (h4 j u row a b).1 h2 ne1 hg, (h4 j u row a b).2⟩, h5⟩
/-- The grid's own row of rows is written: rows of other elements stay. -/
theorem Grid.other {b2 e2 s2 n2 : Nat} {v2 : Value} {xs2 : List Value} (h : Grid w base M v rows) (h2 : w.ownsRow b2 e2 s2 v2 n2 xs2) (ne : e2 ≠ 43) (hg : w.grownBy w' v.ownBlock) : w'.ownsRow b2 e2 s2 v2 n2 xs2 := by
  obtain ⟨vs, h1, h3, h4, h5⟩ := h
  exact own_types h2 h3 ne hg
/-- A row of numbers from M on is written: the grid stays. -/
theorem Grid.row {v2 : Value} {b2 s2 n2 : Nat} {xs2 : List Value} (h : Grid w base M v rows) (h2 : w.ownsRow b2 2 s2 v2 n2 xs2) (hM : ∀ g, v2.ownBlock = some g → M ≤ g) (hg : w.grownBy w' v2.ownBlock) : Grid w' base M v rows := by
  obtain ⟨vs, h1, h3, h4, h5⟩ := h
  refine ⟨vs, h1, own_types h3 h2 (by decide) hg, fun j u row a b => ⟨(h4 j u row a b).1.kept hg ?_, (h4 j u row a b).2⟩, h5⟩
  have hlt := (h4 j u row a b).2
  cases hb : u.ownBlock with
  | none => exact .inl rfl
  | some g => exact .inr fun e => by have := hM g e.symm; have := hlt g hb; omega
/-- One row more, its block above all of the grid's. -/
theorem Grid.snoc {M' : Nat} {v' u : Value} {row : List Int} {vs : List Value}
    (h1 : vs.length = rows.length) (h2 : w.ownsRow base 43 1 v rows.length vs)
    (h3 : ∀ (j : Nat) (u : Value) (row : List Int), vs[j]? = some u → rows[j]? = some row → w.ownsRow base 2 1 u row.length (ints row) ∧ ∀ g, u.ownBlock = some g → g < M) (h4 : vs.Pairwise Rise)
    (hu : w.ownsRow base 2 1 u row.length (ints row)) (hB : ∀ g, u.ownBlock = some g → M ≤ g ∧ g < M') (hM : M ≤ M')
    (ho : w'.ownsRow base 43 1 v' (rows.length + 1) (vs ++ [u])) (hg : w.grownBy w' v.ownBlock) : Grid w' base M' v' (rows ++ [row]) := by
  have hne : 2 ≠ 43 := by decide
  refine ⟨vs ++ [u], by simp [h1], by simpa using ho, fun j x r a b => ?_, ?_⟩
  · rcases Nat.lt_or_ge j vs.length with hj | hj
    · rw [List.getElem?_append_left hj] at a
      rw [List.getElem?_append_left (by omega)] at b
      exact ⟨own_types (h3 j x r a b).1 h2 hne hg, fun g hx => Nat.lt_of_lt_of_le ((h3 j x r a b).2 g hx) hM⟩
    · rw [List.getElem?_append_right hj] at a
      rw [List.getElem?_append_right (by omega), ← h1] at b
      have h0 : j - vs.length = 0 := by
        rcases Nat.eq_zero_or_pos (j - vs.length) with h0 | h0
        · exact h0
        · rw [List.getElem?_eq_none (by simp; omega)] at a; cases a
      rw [h0] at a b
      simp at a b
      subst a b
      exact ⟨own_types hu h2 hne hg, fun g hx => (hB g hx).2⟩
  · rw [List.pairwise_append]
    refine ⟨h4, List.pairwise_singleton _ _, fun x hx y hy g k hg hk => ?_⟩
    simp at hy
    subst hy
    obtain ⟨j, hj⟩ := List.getElem?_of_mem hx
    have hr : rows[j]? = some (rows[j]'(by have := (List.getElem?_eq_some_iff.1 hj).1; omega)) := List.getElem?_eq_getElem _
    have := (h3 j x _ hj hr).2 g hg
    have := (hB k hk).1
    omega
end

/-- 'append(out, row)', out the call's own. -/
theorem push_row {P : Program} {w : World} {ops : Array Oper} {rest : List Oper} {o : Oper} {a : Act} {Q : Exit → Act → World → Prop}
    {base M : Nat} {v u : Value} {rows : List (List Int)} {row : List Int} (hG : Grid w base M v rows)
    (hu : w.ownsRow base 2 1 u row.length (ints row)) (hum : ∀ g, u.ownBlock = some g → M ≤ g) (hM : M ≤ w.heap.size) (e2 : TypeId)
    {t : TypeId} (ht : P.underlying t = some (.slice 43)) (inf : (P.info? 43).map (fun i => (i.zero, i.size, i.bytes)) = some (some (.slice none 0 0), 1, 24))
    (hgd : o.guard = none) (s x : Operand) (ho : o.op = .call { callee := .builtin .append, args := #[s, x], argTypes := #[t, t] }) (hs : a.eval s = v) (hx : a.eval x = .slice (some ⟨w.heap.size, 0, none⟩) 1 1)
    (hn : rows.length ≤ 1099511627776) (hbase : base ≤ w.heap.size)
    (h : ∀ v' w', Grid w' base w.heap.size v' (rows ++ [row]) → Below base w w' → w.grownBy w' v.ownBlock → wpList P ops Q rest (a.put o.dst v') w') :
    wpList P ops Q (o :: rest) a (w.alloc (.cells #[u] e2)) := by
  obtain ⟨vs, h1, h2, h3, h4⟩ := hG
  refine push_own h2 #[u] e2 ht inf rfl (by omega) hgd s x ho hs hx rfl ?_ hn (by omega) hbase fun v' w' g1 g2 g3 => h v' w' ?_ g2 g3
  · intro y hy
    simp at hy
    subst hy
    obtain ⟨A, c, rfl⟩ := own_form hu
    rfl
  · exact Grid.snoc h1 h2 h3 h4 hu (fun g hg => ⟨hum g hg, (hu.lt g hg).2⟩) hM (by simpa using g1) g3
end Go.Proofs.Ytlbhfjbbkkkldaa
