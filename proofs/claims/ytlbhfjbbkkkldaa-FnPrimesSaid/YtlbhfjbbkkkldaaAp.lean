/- Appends of whole slices and of single elements of several cells, as laws of a walk and as steps of a region that draws its order. Nothing of the program is named here. -/
import Derived.Test.YtlbhfjbbkkkldaaKit
import Derived.Laws.AppendOwnNone
import Derived.Deep.RegionLaw
namespace Go.Proofs.Ytlbhfjbbkkkldaa
open Go.RowKit
set_option linter.unusedVariables false

/-- 'append(out, list...)', elements of sz cells, out the call's own. -/
theorem wp_app_own {P : Program} {w : World} {o : Oper} {a : Act} {K : Act → World → Prop} {Q : Exit → Act → World → Prop}
    {base B n sz : Nat} {v : Value} {xs : List Value} {e : Nat} (hown : w.ownsRow base e sz v n xs) (A : Option Addr) (m c : Nat) (ys : List Value) (hr : Rd w B sz A m ys) (hA : A = none → c = 0) (h1 : ∀ u ∈ ys, u.oneCell' = true)
    {t : TypeId} {z : Value} {by_ : Nat} (ht : P.underlying t = some (.slice e)) (inf : (P.info? e).map (fun i => (i.zero, i.size, i.bytes)) = some (some z, sz, by_)) (hz : z.cells.size = sz) (hsz : 0 < sz)
    (s x : Operand) (ho : o.op = .call { callee := .builtin .append, args := #[s, x], argTypes := #[t, t] }) (hs : a.eval s = v) (hx : a.eval x = .slice A m c)
    (hn : n + m ≤ 1099511627776) (hby : by_ ≤ 64) (hbase : base ≤ w.heap.size)
    (h : ∀ v' w', w'.ownsRow base e sz v' (n + m) (xs ++ ys) → Below base w w' → w.grownBy w' v.ownBlock → K (a.put o.dst v') w') :
    o.wp P a w K Q := by
  obtain ⟨i0, hi, hz0, hz1, hz2⟩ := info_parts inf
  have hl := hr.1
  cases A with
  | none =>
    have hm : m = 0 := by
      rcases Nat.eq_zero_or_pos m with h0 | h0
      · exact h0
      · obtain ⟨_, _, he, _⟩ := hr.2 h0; cases he
    subst hm
    have hc := hA rfl
    subst hc
    have hy : ys = [] := List.eq_nil_of_length_eq_zero (by simpa using hl)
    subst hy
    have hrun := run_append_owned_none (P := P) (w := w) base t o.type e i0 sz ht hi v n _ hown
    unfold Oper.wp
    simp [execOp, ho, resolve, invoke, builtin, hs, hx, hrun, Result.andThen]
    exact h v w (by rw [List.append_nil]; exact hown) (Below.refl _ _) (World.grownBy.refl _ _)
  | some ad =>
    refine wp_append_own w s x t ho base e i0 z sz by_ ht hi hz0 hz1 hz2 hz hsz v n _ hs hown ad m c ys hx hl ?_ h1 (by unfold maxLen; omega) ?_ hbase ?_
    · intro j u hj
      have hjl : 0 < m := by
        have := (List.getElem?_eq_some_iff.1 hj).1
        rcases Nat.eq_zero_or_pos m with h0 | h0
        · subst h0; simp at hl; simp [hl] at this
        · exact h0
      obtain ⟨b, off, he, hb, hc⟩ := hr.2 hjl
      injection he with he
      subst he
      have e1 : (⟨b, off, none⟩ : Addr).add j = ⟨b, off + j, none⟩ := by unfold Addr.add; split <;> simp_all
      rw [e1]
      exact hc j u hj
    · have := Nat.mul_le_mul hn hby
      omega
    · intro v' w' g1 g2 _
      have hlt := hown.lt
      exact h v' w' g1 ((Below.refl base w).grown g2 hbase (fun k hk => (hlt k hk).1)) g2
theorem app_own {P : Program} {w : World} {ops : Array Oper} {rest : List Oper} {o : Oper} {a : Act} {Q : Exit → Act → World → Prop}
    {base B n sz : Nat} {v : Value} {xs : List Value} {e : Nat} (hown : w.ownsRow base e sz v n xs) (A : Option Addr) (m c : Nat) (ys : List Value) (hr : Rd w B sz A m ys) (hA : A = none → c = 0) (h1 : ∀ u ∈ ys, u.oneCell' = true)
    {t : TypeId} {z : Value} {by_ : Nat} (ht : P.underlying t = some (.slice e)) (inf : (P.info? e).map (fun i => (i.zero, i.size, i.bytes)) = some (some z, sz, by_)) (hz : z.cells.size = sz) (hsz : 0 < sz)
    (hgd : o.guard = none) (s x : Operand) (ho : o.op = .call { callee := .builtin .append, args := #[s, x], argTypes := #[t, t] }) (hs : a.eval s = v) (hx : a.eval x = .slice A m c)
    (hn : n + m ≤ 1099511627776) (hby : by_ ≤ 64) (hbase : base ≤ w.heap.size)
    (h : ∀ v' w', w'.ownsRow base e sz v' (n + m) (xs ++ ys) → Below base w w' → w.grownBy w' v.ownBlock → wpList P ops Q rest (a.put o.dst v') w') :
    wpList P ops Q (o :: rest) a w :=
  wpList_plain hgd fun K hK => wp_app_own hown A m c ys hr hA h1 ht inf hz hsz s x ho hs hx hn hby hbase fun v' w' h1 h2 h3 => hK _ _ (h v' w' h1 h2 h3)
theorem step_app_own {P : Program} {ops : Array Oper} {o : Oper} {a : Act} {w : World} {K : Act → World → Prop} {Q : Exit → Act → World → Prop} {E : Prop}
    {base B n sz : Nat} {v : Value} {xs : List Value} {e : Nat} (hown : w.ownsRow base e sz v n xs) (A : Option Addr) (m c : Nat) (ys : List Value) (hr : Rd w B sz A m ys) (hA : A = none → c = 0) (h1 : ∀ u ∈ ys, u.oneCell' = true)
    {t : TypeId} {z : Value} {by_ : Nat} (ht : P.underlying t = some (.slice e)) (inf : (P.info? e).map (fun i => (i.zero, i.size, i.bytes)) = some (some z, sz, by_)) (hz : z.cells.size = sz) (hsz : 0 < sz)
    (hgd : o.guard = none) (s x : Operand) (ho : o.op = .call { callee := .builtin .append, args := #[s, x], argTypes := #[t, t] }) (hs : a.eval s = v) (hx : a.eval x = .slice A m c)
    (hn : n + m ≤ 1099511627776) (hby : by_ ≤ 64) (hbase : base ≤ w.heap.size)
    (h : ∀ v' w', w'.ownsRow base e sz v' (n + m) (xs ++ ys) → Below base w w' → w.grownBy w' v.ownBlock → K (a.put o.dst v') w') :
    if Region.wanted o (yielded ops a.tmps) = true then Oper.wp P o a w K Q else E := by
  have hw : Region.wanted o (yielded ops a.tmps) = true := by simp [Region.wanted, hgd]
  rw [if_pos hw]
  exact wp_app_own hown A m c ys hr hA h1 ht inf hz hsz s x ho hs hx hn hby hbase h
/-- 'append(out, x)' as a step of a region that draws its order: the element has just been laid. -/
theorem step_push_own {P : Program} {ops : Array Oper} {o : Oper} {a : Act} {w : World} {K : Act → World → Prop} {Q : Exit → Act → World → Prop} {E : Prop}
    {base n sz : Nat} {v : Value} {xs : List Value} {e : Nat} (hown : w.ownsRow base e sz v n xs) (g : Nat) (us : Array Value) (hcell : ∀ j u, us.toList[j]? = some u → w.cell? ⟨g, j, none⟩ = some u) (hl : us.size = sz) (h1 : ∀ u ∈ us.toList, u.oneCell' = true)
    {t : TypeId} {z : Value} {by_ : Nat} (ht : P.underlying t = some (.slice e)) (inf : (P.info? e).map (fun i => (i.zero, i.size, i.bytes)) = some (some z, sz, by_)) (hz : z.cells.size = sz) (hsz : 0 < sz)
    (hgd : o.guard = none) (s x : Operand) (ho : o.op = .call { callee := .builtin .append, args := #[s, x], argTypes := #[t, t] }) (hs : a.eval s = v) (hx : a.eval x = .slice (some ⟨g, 0, none⟩) 1 1)
    (hn : n ≤ 1099511627775) (hby : by_ ≤ 64) (hbase : base ≤ w.heap.size) (hg : g < w.heap.size)
    (h : ∀ v' w', w'.ownsRow base e sz v' (n + 1) (xs ++ us.toList) → Below base w w' → w.grownBy w' v.ownBlock → K (a.put o.dst v') w') :
    if Region.wanted o (yielded ops a.tmps) = true then Oper.wp P o a w K Q else E :=
  step_app_own hown (some ⟨g, 0, none⟩) 1 1 us.toList (B := g + 1) ⟨by simp [hl], fun _ => ⟨g, 0, rfl, by omega, fun j u hu => by rw [Nat.zero_add]; exact hcell j u hu⟩⟩ (fun h => by cases h) h1 ht inf hz hsz hgd s x ho hs hx (by omega) hby hbase h
/-- 'append(out, x)', x an int64; the new element's block is the heap's size in any spelling. -/
theorem push_intH {P : Program} {w : World} {ops : Array Oper} {rest : List Oper} {o : Oper} {a : Act} {Q : Exit → Act → World → Prop}
    {base : Nat} {v : Value} {xs : List Int} {e : Nat} (hown : w.ownsRow base e 1 v xs.length (ints xs)) (y : Int) (e2 : TypeId)
    {t : TypeId} {z : Value} (ht : P.underlying t = some (.slice e)) (inf : (P.info? e).map (fun i => (i.zero, i.size, i.bytes)) = some (some z, 1, 8)) (hz : z.cells.size = 1)
    (hgd : o.guard = none) (s x : Operand) (ho : o.op = .call { callee := .builtin .append, args := #[s, x], argTypes := #[t, t] }) (hs : a.eval s = v) {H : Nat} (hx : a.eval x = .slice (some ⟨H, 0, none⟩) 1 1) (hH : H = w.heap.size)
    (hn : xs.length ≤ 1099511627776) (hbase : base ≤ w.heap.size)
    (h : ∀ v' w', w'.ownsRow base e 1 v' (xs ++ [y]).length (ints (xs ++ [y])) → Below base w w' → w.grownBy w' v.ownBlock → wpList P ops Q rest (a.put o.dst v') w') :
    wpList P ops Q (o :: rest) a (w.alloc (.cells #[.int .i64 y] e2)) := by
  subst hH
  exact push_int hown y e2 ht inf hz hgd s x ho hs hx hn hbase h
/-- A part of a slice of elements of several cells. -/
theorem Rd.cutR {w : World} {B n sz i k : Nat} {b off : Nat} {xs : List Value} (h : Rd w B sz (some ⟨b, off, none⟩) n xs) (hik : i ≤ k) (hk : k ≤ n) : Rd w B sz (some ⟨b, off + i * sz, none⟩) (k - i) ((xs.take (k * sz)).drop (i * sz)) := by
  have hl := h.1
  have e1 := Nat.mul_le_mul_right sz hik
  have e2 := Nat.mul_le_mul_right sz hk
  refine ⟨by rw [List.length_drop, List.length_take, Nat.sub_mul]; omega, fun h0 => ?_⟩
  obtain ⟨b', off', he, hb, hc⟩ := h.2 (by omega)
  injection he with he
  injection he with e1 e2
  subst e1 e2
  refine ⟨b, off + i * sz, rfl, hb, fun j u hu => ?_⟩
  have hj : i * sz + j < k * sz := by
    have := (List.getElem?_eq_some_iff.1 hu).1
    rw [List.length_drop, List.length_take] at this; omega
  have hu2 : xs[i * sz + j]? = some u := by
    rw [← hu, List.getElem?_drop, List.getElem?_take, if_pos hj]
  have := hc (i * sz + j) u hu2
  rw [Nat.add_assoc]
  exact this
end Go.Proofs.Ytlbhfjbbkkkldaa
