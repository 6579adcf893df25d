/- 'append(out, x)' where out's block matters: it stays, or is new. And grids beside such a row. -/
import Derived.Test.YtlbhfjbbkkkldaaGr
import Derived.Maps.AppendAt
namespace Go.Proofs.Ytlbhfjbbkkkldaa
open Go.RowKit
set_option linter.unusedVariables false

/-- The block of a slice is that of another, or lies from B on. -/
def SameOr (v v' : Value) (B : Nat) : Prop := v'.ownBlock = v.ownBlock ∨ ∃ g, v'.ownBlock = some g ∧ B ≤ g
/-- 'append(out, x)': one element more, out the call's own; where the new slice lies. -/
theorem push_own2 {P : Program} {w : World} {ops : Array Oper} {rest : List Oper} {o : Oper} {a : Act} {Q : Exit → Act → World → Prop}
    {base : Nat} {v : Value} {n : Nat} {xs : List Value} {e sz : Nat} (hown : w.ownsRow base e sz v n xs) (us : Array Value) (e2 : TypeId)
    {t : TypeId} {z : Value} {by_ : Nat} (ht : P.underlying t = some (.slice e)) (inf : (P.info? e).map (fun i => (i.zero, i.size, i.bytes)) = some (some z, sz, by_)) (hz : z.cells.size = sz) (hsz : 0 < sz)
    (hgd : o.guard = none) (s x : Operand) (ho : o.op = .call { callee := .builtin .append, args := #[s, x], argTypes := #[t, t] }) (hs : a.eval s = v) (hx : a.eval x = .slice (some ⟨w.heap.size, 0, none⟩) 1 1)
    (hl : us.size = sz) (h1 : ∀ u ∈ us.toList, u.oneCell' = true) (hn : n ≤ 1099511627776) (hby : by_ ≤ 64) (hbase : base ≤ w.heap.size)
    (h : ∀ v' w', w'.ownsRow base e sz v' (n + 1) (xs ++ us.toList) → Below base w w' → w.grownBy w' v.ownBlock → SameOr v v' w.heap.size → wpList P ops Q rest (a.put o.dst v') w') :
    wpList P ops Q (o :: rest) a (w.alloc (.cells us e2)) := by
  obtain ⟨i0, hi, hz0, hz1, hz2⟩ := info_parts inf
  refine wpList_append_own_at _ hgd s x t ho base e i0 z sz by_ ht hi hz0 hz1 hz2 hz hsz v n xs hs (hown.alloc _) ⟨w.heap.size, 0, none⟩ 1 1 us.toList hx (by simp [hl]) ?_ h1 (by unfold maxLen; omega) ?_ (by simp; omega) ?_
  · intro j u hj
    have e1 : (⟨w.heap.size, 0, none⟩ : Addr).add j = ⟨w.heap.size, j, none⟩ := by unfold Addr.add; split <;> simp_all
    rw [e1, World.cell?_alloc_at _ _ _ _ rfl]
    simpa using hj
  · have := Nat.mul_le_mul (show n + 1 ≤ 1099511627777 by omega) hby
    omega
  · intro v' w' g1 g2 _ g4
    have hlt := hown.lt
    refine h v' w' g1 ((Below.refl base w).alloc hbase _ |>.grown g2 (by simp; omega) (fun k hk => (hlt k hk).1)) ⟨g2.os, g2.tape, g2.output, Nat.le_trans (by simp) g2.size, fun k hk hne => (g2.block k (by simp; omega) hne).trans (Below.heap_alloc _ _ _ hk)⟩ ?_
    rcases g4 with g4 | g4
    · exact .inl g4
    · exact .inr ⟨_, g4, by simp⟩
theorem push_int2 {P : Program} {w : World} {ops : Array Oper} {rest : List Oper} {o : Oper} {a : Act} {Q : Exit → Act → World → Prop}
    {base : Nat} {v : Value} {xs : List Int} {e : Nat} (hown : w.ownsRow base e 1 v xs.length (ints xs)) (y : Int) (e2 : TypeId)
    {t : TypeId} {z : Value} (ht : P.underlying t = some (.slice e)) (inf : (P.info? e).map (fun i => (i.zero, i.size, i.bytes)) = some (some z, 1, 8)) (hz : z.cells.size = 1)
    (hgd : o.guard = none) (s x : Operand) (ho : o.op = .call { callee := .builtin .append, args := #[s, x], argTypes := #[t, t] }) (hs : a.eval s = v) (hx : a.eval x = .slice (some ⟨w.heap.size, 0, none⟩) 1 1)
    (hn : xs.length ≤ 1099511627776) (hbase : base ≤ w.heap.size)
    (h : ∀ v' w', w'.ownsRow base e 1 v' (xs ++ [y]).length (ints (xs ++ [y])) → Below base w w' → w.grownBy w' v.ownBlock → SameOr v v' w.heap.size → wpList P ops Q rest (a.put o.dst v') w') :
    wpList P ops Q (o :: rest) a (w.alloc (.cells #[.int .i64 y] e2)) := by
  refine push_own2 hown #[.int .i64 y] e2 ht inf hz (by omega) hgd s x ho hs hx rfl ?_ hn (by omega) hbase fun v' w' h1 h2 h3 h4 => h v' w' ?_ h2 h3 h4
  · intro u hu; simp at hu; subst hu; rfl
  · rw [← ints_snoc, List.length_append]; simpa using h1

/-- The slice's block is none of the blocks from lo to hi - 1. -/
def Off (v : Value) (lo hi : Nat) : Prop := ∀ g, v.ownBlock = some g → g < lo ∨ hi ≤ g
theorem Off.same {v v' : Value} {lo hi B : Nat} (h : Off v lo hi) (k : SameOr v v' B) (hB : hi ≤ B) : Off v' lo hi := by
  intro g hg
  rcases k with k | ⟨g2, k, hb⟩
  · exact h g (k ▸ hg)
  · rw [k] at hg
    obtain rfl : g2 = g := Option.some.inj hg
    omega
theorem Grid.off {w w' : World} {base M : Nat} {v v2 : Value} {rows : List (List Int)} (h : Grid w base M v rows) (hM : ∀ g, v.ownBlock = some g → g < M) (ho : Off v2 base M) (hg : w.grownBy w' v2.ownBlock) : Grid w' base M v rows := by
  obtain ⟨vs, h1, h3, h4, h5⟩ := h
  refine ⟨vs, h1, h3.kept hg ?_, fun j u row a b => ⟨(h4 j u row a b).1.kept hg ?_, (h4 j u row a b).2⟩, h5⟩
  · cases hb : v.ownBlock with
    | none => exact .inl rfl
    | some g => exact .inr fun e => by have := ho g e.symm; have := hM g hb; have := (h3.lt g hb).1; omega
  · have hlt := (h4 j u row a b).2
    have hlo := (h4 j u row a b).1.lt
    cases hb : u.ownBlock with
    | none => exact .inl rfl
    | some g => exact .inr fun e => by have := ho g e.symm; have := hlt g hb; have := (hlo g hb).1; omega
/-- A row of the call's own beside another that is written. -/
theorem own_off {w w' : World} {base e sz n M : Nat} {v v2 : Value} {xs : List Value} (h : w.ownsRow base e sz v n xs) (hM : ∀ g, v.ownBlock = some g → g < M) (ho : Off v2 base M) (hg : w.grownBy w' v2.ownBlock) : w'.ownsRow base e sz v n xs := by
  refine h.kept hg ?_
  cases hb : v.ownBlock with
  | none => exact .inl rfl
  | some g => exact .inr fun e => by have := ho g e.symm; have := hM g hb; have := (h.lt g hb).1; omega
theorem Rd.off {w w' : World} {B sz n : Nat} {A : Option Addr} {us : List Value} {v2 : Value} (h : Rd w B sz A n us) (hB : B ≤ w.heap.size) (ho : ∀ g, v2.ownBlock = some g → B ≤ g) (hg : w.grownBy w' v2.ownBlock) : Rd w' B sz A n us :=
  ⟨h.1, fun hn => by
    obtain ⟨b, off, e, hb, hc⟩ := h.2 hn
    refine ⟨b, off, e, hb, fun j u hu => ?_⟩
    have hk := hg.block b (Nat.lt_of_lt_of_le hb hB) (fun e => by have := ho b e.symm; omega)
    exact (World.cell?_of_block (a := ⟨b, off + j, none⟩) hk).trans (hc j u hu)⟩
end Go.Proofs.Ytlbhfjbbkkkldaa
