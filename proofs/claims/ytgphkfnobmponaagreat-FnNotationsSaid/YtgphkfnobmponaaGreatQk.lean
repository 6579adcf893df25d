/- The text: Qk. -/
import Derived.Test.YtgphkfnobmponaaGreatG36
import Derived.Deep.RegionLaw
/- Contract of the reference's l06Own: a copy of a passing pattern. -/
namespace Go.Proofs.YtgphkfnobmponaaGreat
open Go.RowKit
set_option linter.unusedVariables false

theorem bx_at {w : World} {g t : Nat} {cs : Array Value} (h : g = w.heap.size) : Bx (w.alloc (.cells cs t)) g t cs := by subst h; exact Bx.new _ _ _
theorem own_empty {w : World} {g base t : Nat} (h : Bx w g t #[]) (hb : base ≤ g) : w.ownsRow base t 2 (.slice (some ⟨g, 0, none⟩) 0 0) 0 [] := by
  refine ⟨rfl, .inr ⟨g, 0, #[], rfl, hb, h, ?_⟩⟩
  simp [maxLen]
/-- Appending to an empty row of the call's own, as a step of a region that draws its order: other rows that are not empty stay. -/
theorem step_copy {P : Program} {ops : Array Oper} {o : Oper} {a : Act} {w : World} {K : Act → World → Prop} {Q : Exit → Act → World → Prop} {E : Prop}
    {base B H : Nat} {e : Nat} (hE : Bx w H e #[]) (hH : base ≤ H) (A : Option Addr) (m c : Nat) (ys : List Value) (hr : Rd w B 2 A m ys) (hA : A = none → c = 0) (h1 : ∀ u ∈ ys, u.oneCell' = true)
    {t : TypeId} {z : Value} {by_ : Nat} (ht : P.underlying t = some (.slice e)) (inf : (P.info? e).map (fun i => (i.zero, i.size, i.bytes)) = some (some z, 2, by_)) (hz : z.cells.size = 2)
    (hgd : o.guard = none) (s x : Operand) (ho : o.op = .call { callee := .builtin .append, args := #[s, x], argTypes := #[t, t] }) (hs : a.eval s = .slice (some ⟨H, 0, none⟩) 0 0) (hx : a.eval x = .slice A m c)
    (hm : 1 ≤ m) (hn : m ≤ 1099511627776) (hby : by_ ≤ 64)
    (h : ∀ g' c' w', w'.ownsRow base e 2 (.slice (some ⟨g', 0, none⟩) m c') m ys → Below base w w' → w.heap.size ≤ w'.heap.size → (∀ {b n v xs}, 0 < n → w.ownsRow b e 2 v n xs → w'.ownsRow b e 2 v n xs) → (∀ {g cs}, g ≠ H → Bx w g e cs → Bx w' g e cs) → K (a.put o.dst (.slice (some ⟨g', 0, none⟩) m c')) w') :
    if Region.wanted o (yielded ops a.tmps) = true then Oper.wp P o a w K Q else E := by
  refine step_app_own (base := base) (n := 0) (xs := []) (own_empty hE hH) A m c ys hr hA h1 ht inf hz (by omega) hgd s x ho hs hx (by omega) hby (Nat.le_of_lt (Nat.lt_of_le_of_lt hH hE.lt)) fun v' w' k1 k2 k3 => ?_
  rw [Nat.zero_add, List.nil_append] at k1
  obtain ⟨g', c', rfl, hg', _⟩ := own_block k1 (by omega)
  refine h g' c' w' k1 k2 k2.size ?_ ?_
  · intro b n v xs hn hv
    refine hv.kept k3 (.inr ?_)
    obtain ⟨gv, cv, rfl, _, _⟩ := own_block hv hn
    intro e
    have e : gv = H := by simpa [Value.ownBlock] using e
    subst e
    have hl := hv.1
    have h0 := hv.cellAt 0 (by omega)
    rw [hE.cell 0, List.getElem?_eq_getElem (by omega)] at h0
    simp at h0
  · intro g cs hg hb
    exact hb.grown k3 (by simp [Value.ownBlock]; exact hg)
/-- Copies of the call's own. -/
def OwRes (B n m : Nat) (p : Psg) (e : Ending) (w : World) : Prop := ∃ gA cA gB cB, e = .returned (.agg #[.slice (some ⟨gA, 0, none⟩) n cA, .slice (some ⟨gB, 0, none⟩) m cB]) ∧ w.ownsRow B 83 2 (.slice (some ⟨gA, 0, none⟩) n cA) n (ths p.1) ∧ w.ownsRow B 83 2 (.slice (some ⟨gB, 0, none⟩) m cB) m (ths p.2)
set_option maxRecDepth 100000 in
set_option maxHeartbeats 16000000 in
theorem l06Own_any (g : Nat) (A B : Option Addr) (n c m d : Nat) (p : Psg) (w : World) (hn0 : 1 ≤ n) (hm0 : 1 ≤ m) (hn : n ≤ 100) (hm : m ≤ 100) (hx : Bx w g 31 #[.slice A n c, .slice B m d]) (hr : Rd w w.heap.size 2 A n (ths p.1)) (hs : Rd w w.heap.size 2 B m (ths p.2)) :
    Calls Tryz.prog 144 #[.pointer (some ⟨g, 0, none⟩)] w fun e w' => OwRes w.heap.size n m p e w' ∧ Below w.heap.size w w' := by
  obtain ⟨ba, offa, rfl, hba, _⟩ := hr.2 (by omega)
  obtain ⟨bb, offb, rfl, hbb, _⟩ := hs.2 (by omega)
  have hgl := hx.lt
  have c0 := hx.cell 0
  have c1 := hx.cell 1
  replace c0 : w.cell? ⟨g, 0, none⟩ = some (.slice (some ⟨ba, offa, none⟩) n c) := c0
  replace c1 : w.cell? ⟨g, 1, none⟩ = some (.slice (some ⟨bb, offb, none⟩) m d) := c1
  have HR := hid hr
  have HS := hid hs
  clear hx hr hs
  go_enter Tryz.func144, Tryz.ntmps144
  have hB3 : Below w.heap.size w (((w.alloc (Obj.cells #[.slice none 0 0, .slice none 0 0] 31)).alloc (Obj.cells #[] 83)).alloc (Obj.cells #[] 83)) := (by repeat' (first | exact Below.refl _ _ | (with_reducible first | assumption | exact Nat.le_refl _ | refine Below.alloc ?_ ?_ _ | refine Below.setCell ?_ ?_ _ | refine Below.drew ?_ | refine below_drewN ?_ _) | refine Below.trans ?_ (Below.mono (by assumption) ?_) | exact Below.size (by assumption) | omega | go_size | (simp at *; omega)))
  have k0 := (hB3.cell (p := ⟨g, 0, none⟩) hgl).trans c0
  have k1 := (hB3.cell (p := ⟨g, 1, none⟩) hgl).trans c1
  clear hB3
  go_wp2
  go_region_law (first
    | (refine step_copy (base := w.heap.size + 1) (e := 83) (by first | (refine bx_at ?_; (first | (simp; done) | (simp; omega))) | (refine Bx.drew (bx_at ?_); (first | (simp; done) | (simp; omega))) | (refine Bx.alloc (bx_at ?_) _; (first | (simp; done) | (simp; omega))) | (refine Bx.drew (Bx.alloc (bx_at ?_) _); (first | (simp; done) | (simp; omega))) | (refine Bx.alloc (Bx.drew (bx_at ?_)) _; (first | (simp; done) | (simp; omega)))) (by first | omega | (simp; done) | (simp; omega)) (some ⟨ba, offa, none⟩) n c (ths p.1) (HR.out.below (C := w.heap.size) (by repeat' (first | exact Below.refl _ _ | (with_reducible first | assumption | exact Nat.le_refl _ | refine Below.alloc ?_ ?_ _ | refine Below.setCell ?_ ?_ _ | refine Below.drew ?_ | refine below_drewN ?_ _) | refine Below.trans ?_ (Below.mono (by assumption) ?_) | exact Below.size (by assumption) | omega | go_size | (simp at *; omega))) (Nat.le_refl _)) (fun h => by cases h) (ths_one _) Tryz.underlying29 inf_pt rfl rfl _ _ rfl rfl rfl (by omega) (by omega) (by omega) ?_; intro G5 C5 w5 ho5 hb5 hz5 hK5 hE5; have hB5 : Below w.heap.size w w5 := (by repeat' (first | exact Below.refl _ _ | (with_reducible first | assumption | exact Nat.le_refl _ | refine Below.alloc ?_ ?_ _ | refine Below.setCell ?_ ?_ _ | refine Below.drew ?_ | refine below_drewN ?_ _) | refine Below.trans ?_ (Below.mono (by assumption) ?_) | exact Below.size (by assumption) | omega | go_size | (simp at *; omega))); have q05 := (hB5.cell (p := ⟨g, 0, none⟩) hgl).trans c0; have q15 := (hB5.cell (p := ⟨g, 1, none⟩) hgl).trans c1; have hX5 : Bx w5 w.heap.size 31 #[.slice none 0 0, .slice none 0 0] := Bx.below (by first | exact (bx_at rfl).alloc _ | exact ((bx_at rfl).alloc _).alloc _ | exact Bx.drew ((bx_at rfl).alloc _) | exact Bx.drew (((bx_at rfl).alloc _).alloc _)) hb5 (by omega); have e05 : w5.cell? ⟨w.heap.size, 0, none⟩ = some (.slice none 0 0) := hX5.cell 0; have e15 : w5.cell? ⟨w.heap.size, 1, none⟩ = some (.slice none 0 0) := hX5.cell 1; have f05 := hX5.frozen 0; have f15 := hX5.frozen 1; have l5 : g < w5.heap.size := Nat.lt_of_lt_of_le hgl hB5.size; have lw5 : w.heap.size < w5.heap.size := hX5.lt)
    | (refine step_copy (base := w.heap.size + 1) (e := 83) (by first | (refine bx_at ?_; (first | (simp; done) | (simp; omega))) | (refine Bx.drew (bx_at ?_); (first | (simp; done) | (simp; omega))) | (refine Bx.alloc (bx_at ?_) _; (first | (simp; done) | (simp; omega))) | (refine Bx.drew (Bx.alloc (bx_at ?_) _); (first | (simp; done) | (simp; omega))) | (refine Bx.alloc (Bx.drew (bx_at ?_)) _; (first | (simp; done) | (simp; omega))) | (refine hE5 ?_ (bx_at ?_) <;> (first | (simp; done) | (simp; omega))) | (refine hE5 ?_ (Bx.drew (bx_at ?_)) <;> (first | (simp; done) | (simp; omega))) | (refine hE5 ?_ (Bx.alloc (bx_at ?_) _) <;> (first | (simp; done) | (simp; omega))) | (refine hE5 ?_ (Bx.drew (Bx.alloc (bx_at ?_) _)) <;> (first | (simp; done) | (simp; omega))) | (refine hE5 ?_ (Bx.alloc (Bx.drew (bx_at ?_)) _) <;> (first | (simp; done) | (simp; omega)))) (by first | omega | (simp; done) | (simp; omega)) (some ⟨bb, offb, none⟩) m d (ths p.2) (HS.out.below (C := w.heap.size) (by repeat' (first | exact Below.refl _ _ | (with_reducible first | assumption | exact Nat.le_refl _ | refine Below.alloc ?_ ?_ _ | refine Below.setCell ?_ ?_ _ | refine Below.drew ?_ | refine below_drewN ?_ _) | refine Below.trans ?_ (Below.mono (by assumption) ?_) | exact Below.size (by assumption) | omega | go_size | (simp at *; omega))) (Nat.le_refl _)) (fun h => by cases h) (ths_one _) Tryz.underlying29 inf_pt rfl rfl _ _ rfl rfl rfl (by omega) (by omega) (by omega) ?_; intro G6 C6 w6 ho6 hb6 hz6 hK6 hE6; have hB6 : Below w.heap.size w w6 := (by repeat' (first | exact Below.refl _ _ | (with_reducible first | assumption | exact Nat.le_refl _ | refine Below.alloc ?_ ?_ _ | refine Below.setCell ?_ ?_ _ | refine Below.drew ?_ | refine below_drewN ?_ _) | refine Below.trans ?_ (Below.mono (by assumption) ?_) | exact Below.size (by assumption) | omega | go_size | (simp at *; omega))); have q06 := (hB6.cell (p := ⟨g, 0, none⟩) hgl).trans c0; have q16 := (hB6.cell (p := ⟨g, 1, none⟩) hgl).trans c1; have hX6 : Bx w6 w.heap.size 31 #[.slice none 0 0, .slice none 0 0] := Bx.below (by first | exact hX5 | exact hX5.alloc _) hb6 (by omega); have e06 : w6.cell? ⟨w.heap.size, 0, none⟩ = some (.slice none 0 0) := hX6.cell 0; have e16 : w6.cell? ⟨w.heap.size, 1, none⟩ = some (.slice none 0 0) := hX6.cell 1; have f06 := hX6.frozen 0; have f16 := hX6.frozen 1; have l6 : g < w6.heap.size := Nat.lt_of_lt_of_le hgl hB6.size; have lw6 : w.heap.size < w6.heap.size := hX6.lt; have ho7 := hK6 (b := w.heap.size + 1) (n := n) (v := .slice (some ⟨G5, 0, none⟩) n C5) (xs := ths p.1) (by omega) (by first | exact ho5 | exact ho5.alloc _ | exact (ho5.alloc _).alloc _); clear hE5 hE6 hK5 hK6 q05 q15 e05 e15 f05 f15 ho5 hX5 hX6))
  all_goals
    go_wp2
    refine bodyPost_ret (v := .agg #[.slice (some ⟨G5, 0, none⟩) n C5, .slice (some ⟨G6, 0, none⟩) m C6]) ?_ rfl ?_
    · simp (maxDischargeDepth := 8) [results, Tryz.results144, go_sem, *]
    exact ⟨⟨G5, C5, G6, C6, rfl, own_more (own_setq (own_setq ho7 (p := ⟨w.heap.size, 0, none⟩) (by show w.heap.size < _; omega) _) (p := ⟨w.heap.size, 1, none⟩) (by show w.heap.size < _; omega) _) (by omega), own_more (own_setq (own_setq ho6 (p := ⟨w.heap.size, 0, none⟩) (by show w.heap.size < _; omega) _) (p := ⟨w.heap.size, 1, none⟩) (by show w.heap.size < _; omega) _) (by omega)⟩, (by repeat' (first | exact Below.refl _ _ | (with_reducible first | assumption | exact Nat.le_refl _ | refine Below.alloc ?_ ?_ _ | refine Below.setCell ?_ ?_ _ | refine Below.drew ?_ | refine below_drewN ?_ _) | refine Below.trans ?_ (Below.mono (by assumption) ?_) | exact Below.size (by assumption) | omega | go_size | (simp at *; omega)))⟩
end Go.Proofs.YtgphkfnobmponaaGreat
