/- Notations: their values, where their lists lie, how they are read. -/
import Derived.Test.YtkglkpohbckpcaaGr
import Derived.Test.YtkglkpohbckpcaaYs
import Derived.Test.YtkglkpohbckpcaaQa
import Derived.Test.YtkglkpohbckpcaaGl
namespace Go.Proofs.Ytkglkpohbckpcaa
open Go.RowKit
set_option linter.unusedVariables false

abbrev Note := Int × List Int × List (List Int) × List Beat × Psg
def noNote : Note := (0, [], [], [], ([], []))
/-- Where the five lists of a notation lie. -/
structure Six where
  A : Option Addr
  c : Nat
  A2 : Option Addr
  c2 : Nat
  A3 : Option Addr
  c3 : Nat
  A4 : Option Addr
  c4 : Nat
  A5 : Option Addr
  c5 : Nat
theorem zc {w : World} {g : Nat} {t : TypeId} {v0 v1 v2 v3 v4 v5 : Value} (h : Bx w g t #[v0, v1, v2, v3, v4, v5]) :
    (w.cell? ⟨g, 0, none⟩ = some v0 ∧ w.cell? ⟨g, 1, none⟩ = some v1 ∧ w.cell? ⟨g, 2, none⟩ = some v2 ∧ w.cell? ⟨g, 3, none⟩ = some v3 ∧ w.cell? ⟨g, 4, none⟩ = some v4 ∧ w.cell? ⟨g, 5, none⟩ = some v5) ∧
    (w.frozen? ⟨g, 0, none⟩ = false ∧ w.frozen? ⟨g, 1, none⟩ = false ∧ w.frozen? ⟨g, 2, none⟩ = false ∧ w.frozen? ⟨g, 3, none⟩ = false ∧ w.frozen? ⟨g, 4, none⟩ = false ∧ w.frozen? ⟨g, 5, none⟩ = false) :=
  ⟨⟨h.cell 0, h.cell 1, h.cell 2, h.cell 3, h.cell 4, h.cell 5⟩, ⟨h.frozen 0, h.frozen 1, h.frozen 2, h.frozen 3, h.frozen 4, h.frozen 5⟩⟩
/-- A world that has just been made gets a name. -/
theorem wl_name {P : Program} {ops : Array Oper} {Q : Exit → Act → World → Prop} {rest : List Oper} {a : Act} {w1 : World} {O : Obj} (h : ∀ W, w1.alloc O = W → wpList P ops Q rest a W) : wpList P ops Q rest a (w1.alloc O) := h _ rfl
/-- The notation that lies there reads as x. -/
def NtRd (x : Note) (s : Six) (w : World) : Prop :=
  Rd w w.heap.size 1 s.A x.2.1.length (ints x.2.1) ∧ RdG w w.heap.size s.A2 x.2.2.1.length x.2.2.1 ∧ Rd w w.heap.size 4 s.A3 x.2.2.2.1.length (bts x.2.2.2.1) ∧ Rd w w.heap.size 2 s.A4 x.2.2.2.2.1.length (ths x.2.2.2.2.1) ∧ Rd w w.heap.size 2 s.A5 x.2.2.2.2.2.length (ths x.2.2.2.2.2)
theorem NtRd.below {x : Note} {s : Six} {w w' : World} (h : NtRd x s w) (hb : Below w.heap.size w w') : NtRd x s w' := by
  obtain ⟨h1, h2, h3, h4, h5⟩ := h
  exact ⟨(h1.below hb (Nat.le_refl _)).more hb.size, (h2.below hb (Nat.le_refl _)).more hb.size, (h3.below hb (Nat.le_refl _)).more hb.size, (h4.below hb (Nat.le_refl _)).more hb.size, (h5.below hb (Nat.le_refl _)).more hb.size⟩
/-- Lists that are short. -/
def NtSm (x : Note) : Prop := x.2.1.length ≤ 2000000 ∧ (x.2.2.1.length ≤ 2000000 ∧ (∀ r ∈ x.2.2.1, r.length ≤ 2000000) ∧ tot x.2.2.1 ≤ 2000000) ∧ x.2.2.2.1.length ≤ 2000000 ∧ x.2.2.2.2.1.length ≤ 2000000 ∧ x.2.2.2.2.2.length ≤ 2000000
/-- An owned row under a store into a block below its own. -/
theorem own_put0 {w : World} {base e sz n : Nat} {v : Value} {xs : List Value} (h : w.ownsRow base e sz v n xs) {p : Addr} (hp : p.block < base) (u : Value) : (w.setCell p u).ownsRow base e sz v n xs := by
  refine ⟨h.1, ?_⟩
  rcases h.2 with hn | ⟨g, cap, cur, rfl, hg, hh, r⟩
  · exact .inl hn
  · exact .inr ⟨g, cap, cur, rfl, hg, by rw [Below.heap_setCell w p u g (by omega)]; exact hh, r⟩
end Go.Proofs.Ytkglkpohbckpcaa
