/- Contract of l06Bent. -/
import Derived.Test.YtlbhfjbbkkkldaaQm
import Derived.Test.YtlbhfjbbkkkldaaPu
import Derived.Test.YtlbhfjbbkkkldaaMf
import Derived.Deep.CutBlock
namespace Go.Proofs.Ytlbhfjbbkkkldaa
open Go.RowKit
set_option linter.unusedVariables false

/-- Cells of throws that are read: their block lies from C on and below B. -/
def RdP (w : World) (C B : Nat) (A : Option Addr) (n : Nat) (us : List Value) : Prop :=
  us.length = n * 2 ∧ (0 < n → ∃ b off, A = some ⟨b, off, none⟩ ∧ C ≤ b ∧ b < B ∧ ∀ (j : Nat) (u : Value), us[j]? = some u → w.cell? ⟨b, off + j, none⟩ = some u)
section
variable {w w' : World} {C C' B B' n : Nat} {A : Option Addr} {us : List Value}
theorem RdP.rd (h : RdP w C B A n us) : Rd w B 2 A n us :=
  ⟨h.1, fun hn => by
    obtain ⟨b, off, e, _, hb, hc⟩ := h.2 hn
    exact ⟨b, off, e, hb, hc⟩⟩
theorem RdP.keep (h : RdP w C B A n us) (hk : ∀ p : Addr, C ≤ p.block → p.block < B → w'.cell? p = w.cell? p) : RdP w' C B A n us :=
  ⟨h.1, fun hn => by
    obtain ⟨b, off, e, h0, hb, hc⟩ := h.2 hn
    exact ⟨b, off, e, h0, hb, fun j u hu => (hk _ h0 hb).trans (hc j u hu)⟩⟩
theorem RdP.more (h : RdP w C B A n us) (hC : C' ≤ C) (hB : B ≤ B') : RdP w C' B' A n us :=
  ⟨h.1, fun hn => by
    obtain ⟨b, off, e, h0, hb, hc⟩ := h.2 hn
    exact ⟨b, off, e, Nat.le_trans hC h0, Nat.lt_of_lt_of_le hb hB, hc⟩⟩
theorem RdP.setCell (h : RdP w C B A n us) {p : Addr} (hp : p.block < C) (u : Value) : RdP (w.setCell p u) C B A n us :=
  h.keep fun q h0 hq => by
    unfold World.cell?
    rw [Below.heap_setCell w p u q.block (by omega)]
theorem RdP.of_own {base c : Nat} {e : TypeId} (h : w.ownsRow base e 2 (.slice A n c) n us) : RdP w base w.heap.size A n us := by
  refine ⟨h.1, fun hn => ?_⟩
  obtain ⟨b, off, e1, hb, hc⟩ := (Rd.of_own h).2 hn
  refine ⟨b, off, e1, ?_, hb, hc⟩
  obtain ⟨g, c', e2, hge, _⟩ := own_block h hn
  injection e2 with e2 _ _
  rw [e1] at e2
  injection e2 with e2
  injection e2 with e2 _ _
  omega
theorem RdP.cut {k : Nat} {a : List PT} (h : RdP w C B A n (ths a)) (hk : k ≤ n) : RdP w C B A k (ths (a.take k)) := by
  have hl : a.length = n := by have := h.1; rw [ths_len] at this; omega
  refine ⟨by rw [ths_len, List.length_take]; omega, fun h0 => ?_⟩
  obtain ⟨b, off, e, h1, hb, hc⟩ := h.2 (by omega)
  refine ⟨b, off, e, h1, hb, fun j u hj => hc j u ?_⟩
  have e2 : ths a = ths (a.take k) ++ ths (a.drop k) := by rw [ths, ths, ths, ← List.flatMap_append, List.take_append_drop]
  rw [e2, List.getElem?_append_left (List.getElem?_eq_some_iff.1 hj).1]
  exact hj
end
/-- A drawn pattern, whatever it is. -/
def Pe (C : Nat) (w : World) (A : Option Addr) (n : Nat) (B : Option Addr) (m : Nat) : Prop := ∃ p : Psg, RdP w C w.heap.size A n (ths p.1) ∧ RdP w C w.heap.size B m (ths p.2) ∧ n ≤ 9 ∧ m ≤ 9
def PeRow (C : Nat) (w : World) (e : Ending) : Prop := ∃ A n c B m d, e = .returned (.agg #[.slice A n c, .slice B m d]) ∧ Pe C w A n B m
theorem PgAt.pe {C N gA cA gB cB : Nat} {w : World} (h : PgAt C N w gA cA gB cB) (hN : N ≤ 5) : Pe C w (some ⟨gA, 0, none⟩) N (some ⟨gB, 0, none⟩) N := by
  obtain ⟨a, b, h1, h2⟩ := h
  exact ⟨(a, b), RdP.of_own h1, RdP.of_own h2, by omega, by omega⟩
theorem PgAt.pokeA0 {B N gA cA gB cB : Nat} {w : World} (h : PgAt B N w gA cA gB cB) (i : Nat) (v : Int) : PgAt B N (w.setCell ⟨gA, i * 2, none⟩ (.int .i64 v)) gA cA gB cB := by
  obtain ⟨a, b, hA, hB⟩ := h
  obtain ⟨h1, k1⟩ := hA.stored (i * 2) (.int .i64 v)
  rw [ths_set0] at h1
  by_cases hg : gB = gA
  · subst hg
    obtain ⟨j1, _⟩ := hB.stored (i * 2) (.int .i64 v)
    rw [ths_set0] at j1
    exact ⟨_, _, h1, j1⟩
  · exact ⟨_, b, h1, hB.kept k1 (.inr (by simp [Value.ownBlock]; exact hg))⟩
theorem PgAt.pokeB1 {B N gA cA gB cB : Nat} {w : World} (h : PgAt B N w gA cA gB cB) (i : Nat) (x : Bool) : PgAt B N (w.setCell ⟨gB, i * 2 + 1, none⟩ (.bool x)) gA cA gB cB := by
  obtain ⟨a, b, hA, hB⟩ := h
  obtain ⟨h1, k1⟩ := hB.stored (i * 2 + 1) (.bool x)
  rw [ths_set1] at h1
  by_cases hg : gA = gB
  · subst hg
    obtain ⟨j1, _⟩ := hA.stored (i * 2 + 1) (.bool x)
    rw [ths_set1] at j1
    exact ⟨_, _, j1, h1⟩
  · exact ⟨a, _, hA.kept k1 (.inr (by simp [Value.ownBlock]; exact hg)), h1⟩
theorem PgAt.atA {B N gA cA gB cB i : Nat} {w : World} (h : PgAt B N w gA cA gB cB) (hi : i < N) : ∃ x : PT, w.cell? ⟨gA, i * 2, none⟩ = some (.int .i64 x.1) ∧ w.cell? ⟨gA, i * 2 + 1, none⟩ = some (.bool x.2) ∧ w.frozen? ⟨gA, i * 2, none⟩ = false ∧ w.frozen? ⟨gA, i * 2 + 1, none⟩ = false := by
  obtain ⟨a, b, hA, hB⟩ := h
  exact own_at hA hi
theorem PgAt.atB {B N gA cA gB cB i : Nat} {w : World} (h : PgAt B N w gA cA gB cB) (hi : i < N) : ∃ x : PT, w.cell? ⟨gB, i * 2, none⟩ = some (.int .i64 x.1) ∧ w.cell? ⟨gB, i * 2 + 1, none⟩ = some (.bool x.2) ∧ w.frozen? ⟨gB, i * 2, none⟩ = false ∧ w.frozen? ⟨gB, i * 2 + 1, none⟩ = false := by
  obtain ⟨a, b, hA, hB⟩ := h
  exact own_at hB hi
theorem PgAt.neb {B N gA cA gB cB g : Nat} {w : World} {cs : Array Value} {t : TypeId} (h : PgAt B N w gA cA gB cB) (hx : Bx w g t cs) (ht : 94 ≠ t) : g ≠ gA ∧ g ≠ gB := by
  obtain ⟨a, b, h1, h2⟩ := h
  exact ⟨fun e => own_bne h1 hx ht (by show some gA = _; rw [e]), fun e => own_bne h2 hx ht (by show some gB = _; rw [e])⟩
/-- The drawn pattern lies in the box gm, its rows the call's own. -/
def PnG (w0 : World) (g : Nat) (A : Option Addr) (n c : Nat) (xs : List Int) (K gm N gA cA gB cB : Nat) (w : World) : Prop :=
  Src w g A n c xs K ∧ w0.grownBy w (some g) ∧ Bx w w0.heap.size 35 #[.slice none 0 0, .slice none 0 0] ∧ Bx w gm 35 #[.slice (some ⟨gA, 0, none⟩) N cA, .slice (some ⟨gB, 0, none⟩) N cB] ∧ PgAt (w0.heap.size + 1) N w gA cA gB cB
/-- The drawn pattern lies in the box gm, its rows are read. -/
def PnE (w0 : World) (g : Nat) (A : Option Addr) (n c : Nat) (xs : List Int) (K gm : Nat) (A' : Option Addr) (n' c' : Nat) (B' : Option Addr) (m' d' : Nat) (w : World) : Prop :=
  Src w g A n c xs K ∧ w0.grownBy w (some g) ∧ Bx w w0.heap.size 35 #[.slice none 0 0, .slice none 0 0] ∧ Bx w gm 35 #[.slice A' n' c', .slice B' m' d'] ∧ Pe (w0.heap.size + 1) w A' n' B' m'
section
variable {w0 w w' : World} {g n c K gm N gA cA gB cB : Nat} {A : Option Addr} {xs : List Int}
theorem PnG.ask (h : PnG w0 g A n c xs K gm N gA cA gB cB w) (hgl : g < w0.heap.size) (hgm : w0.heap.size < gm) {K' : Nat} (hs : Src w' g A n c xs K') (hg : w.grownBy w' (some g)) : PnG w0 g A n c xs K' gm N gA cA gB cB w' := by
  obtain ⟨h1, h2, h3, h4, h5⟩ := h
  exact ⟨hs, grown_trans h2 hg, h3.grown hg (by intro e; injection e with e; omega), h4.grown hg (by intro e; injection e with e; omega), h5.ask h1 hg⟩
theorem PnG.below (h : PnG w0 g A n c xs K gm N gA cA gB cB w) (hb : Below w.heap.size w w') : PnG w0 g A n c xs K gm N gA cA gB cB w' := by
  obtain ⟨h1, h2, h3, h4, h5⟩ := h
  exact ⟨h1.below hb h1.lt, grown_bl h2 hb h2.size, h3.below hb h3.lt, h4.below hb h4.lt, h5.below hb⟩
theorem PnG.same (h : PnG w0 g A n c xs K gm N gA cA gB cB w) (hN : N ≤ 5) : PnE w0 g A n c xs K gm (some ⟨gA, 0, none⟩) N cA (some ⟨gB, 0, none⟩) N cB w := by
  obtain ⟨h1, h2, h3, h4, h5⟩ := h
  exact ⟨h1, h2, h3, h4, h5.pe hN⟩
theorem PnG.pokeA0 (h : PnG w0 g A n c xs K gm N gA cA gB cB w) (hgl : g < w0.heap.size) (i : Nat) (v : Int) : PnG w0 g A n c xs K gm N gA cA gB cB (w.setCell ⟨gA, i * 2, none⟩ (.int .i64 v)) := by
  obtain ⟨h1, h2, h3, h4, h5⟩ := h
  have hl := h5.lt
  have e3 := h5.neb h3 (by decide)
  have e4 := h5.neb h4 (by decide)
  have hb : Below w0.heap.size w (w.setCell ⟨gA, i * 2, none⟩ (.int .i64 v)) := Below.setCell (Below.refl _ _) (by show w0.heap.size ≤ gA; omega) _
  exact ⟨h1.below hb hgl, grown_bl h2 hb (Nat.le_refl _), h3.far (by exact e3.1) _, h4.far (by exact e4.1) _, h5.pokeA0 i v⟩
theorem PnG.pokeB1 (h : PnG w0 g A n c xs K gm N gA cA gB cB w) (hgl : g < w0.heap.size) (i : Nat) (x : Bool) : PnG w0 g A n c xs K gm N gA cA gB cB (w.setCell ⟨gB, i * 2 + 1, none⟩ (.bool x)) := by
  obtain ⟨h1, h2, h3, h4, h5⟩ := h
  have hl := h5.lt
  have e3 := h5.neb h3 (by decide)
  have e4 := h5.neb h4 (by decide)
  have hb : Below w0.heap.size w (w.setCell ⟨gB, i * 2 + 1, none⟩ (.bool x)) := Below.setCell (Below.refl _ _) (by show w0.heap.size ≤ gB; omega) _
  exact ⟨h1.below hb hgl, grown_bl h2 hb (Nat.le_refl _), h3.far (by exact e3.2) _, h4.far (by exact e4.2) _, h5.pokeB1 i x⟩
theorem PnG.cut (h : PnG w0 g A n c xs K gm N gA cA gB cB w) (hgl : g < w0.heap.size) (hgm : w0.heap.size < gm) (hN : N ≤ 5) {k : Nat} (hk : k ≤ N) : PnE w0 g A n c xs K gm (some ⟨gA, 0, none⟩) k cA (some ⟨gB, 0, none⟩) N cB (w.setCell ⟨gm, 0, none⟩ (.slice (some ⟨gA, 0, none⟩) k cA)) := by
  obtain ⟨h1, h2, h3, h4, h5⟩ := h
  have hb : Below w0.heap.size w (w.setCell ⟨gm, 0, none⟩ (.slice (some ⟨gA, 0, none⟩) k cA)) := Below.setCell (Below.refl _ _) (by show w0.heap.size ≤ gm; omega) _
  have h6 := h5.setb h4 (i := 0) (.slice (some ⟨gA, 0, none⟩) k cA)
  obtain ⟨a, b, k1, k2⟩ := h6
  exact ⟨h1.below hb hgl, grown_bl h2 hb (Nat.le_refl _), h3.far (by show w0.heap.size ≠ gm; omega) _, h4.set_ 0 _, (a.take k, b), (RdP.of_own k1).cut hk, RdP.of_own k2, by omega, by omega⟩
theorem PnE.fin {A' B' : Option Addr} {n' c' m' d' : Nat} (h : PnE w0 g A n c xs K gm A' n' c' B' m' d' w) (hgl : g < w0.heap.size) {K' : Nat} (hK : K ≤ K') :
    PeRow w0.heap.size ((w.setCell ⟨w0.heap.size, 0, none⟩ (.slice A' n' c')).setCell ⟨w0.heap.size, 1, none⟩ (.slice B' m' d')) (.returned (.agg #[.slice A' n' c', .slice B' m' d'])) ∧ Src ((w.setCell ⟨w0.heap.size, 0, none⟩ (.slice A' n' c')).setCell ⟨w0.heap.size, 1, none⟩ (.slice B' m' d')) g A n c xs K' ∧ w0.grownBy ((w.setCell ⟨w0.heap.size, 0, none⟩ (.slice A' n' c')).setCell ⟨w0.heap.size, 1, none⟩ (.slice B' m' d')) (some g) := by
  obtain ⟨h1, h2, h3, h4, p, h5, h6, h7, h8⟩ := h
  have hb : Below w0.heap.size w ((w.setCell ⟨w0.heap.size, 0, none⟩ (.slice A' n' c')).setCell ⟨w0.heap.size, 1, none⟩ (.slice B' m' d')) := Below.setCell (Below.setCell (Below.refl _ _) (by show w0.heap.size ≤ w0.heap.size; exact Nat.le_refl _) _) (by show w0.heap.size ≤ w0.heap.size; exact Nat.le_refl _) _
  exact ⟨⟨A', n', c', B', m', d', rfl, p, ((h5.setCell (p := ⟨w0.heap.size, 0, none⟩) (Nat.lt_succ_self _) _).setCell (p := ⟨w0.heap.size, 1, none⟩) (Nat.lt_succ_self _) _).more (Nat.le_succ _) (by simp), ((h6.setCell (p := ⟨w0.heap.size, 0, none⟩) (Nat.lt_succ_self _) _).setCell (p := ⟨w0.heap.size, 1, none⟩) (Nat.lt_succ_self _) _).more (Nat.le_succ _) (by simp), h7, h8⟩, (h1.below hb hgl).more hK, grown_bl h2 hb (Nat.le_refl _)⟩
end
end Go.Proofs.Ytlbhfjbbkkkldaa
