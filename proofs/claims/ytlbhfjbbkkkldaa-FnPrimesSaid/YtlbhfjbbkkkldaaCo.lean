/- Copies of lists: 'append(out, list...)', cuts of slices, copyNumbers and l00Own. -/
import Derived.Test.YtlbhfjbbkkkldaaProg
import Derived.Test.YtlbhfjbbkkkldaaC
import Derived.Laws.AppendOwnNone
namespace Go.Proofs.Ytlbhfjbbkkkldaa
open Go.RowKit
set_option linter.unusedVariables false

/-- 'append(out, list...)', lists of int64, out the call's own. -/
theorem wp_app_ints {P : Program} {w : World} {o : Oper} {a : Act} {K : Act → World → Prop} {Q : Exit → Act → World → Prop}
    {base B : Nat} {v : Value} {xs : List Int} {e : Nat} (hown : w.ownsRow base e 1 v xs.length (ints xs)) (A : Option Addr) (m c : Nat) (ys : List Int) (hr : Rd w B 1 A m (ints ys)) (hA : A = none → c = 0)
    {t : TypeId} {z : Value} (ht : P.underlying t = some (.slice e)) (inf : (P.info? e).map (fun i => (i.zero, i.size, i.bytes)) = some (some z, 1, 8)) (hz : z.cells.size = 1)
    (s x : Operand) (ho : o.op = .call { callee := .builtin .append, args := #[s, x], argTypes := #[t, t] }) (hs : a.eval s = v) (hx : a.eval x = .slice A m c)
    (hn : xs.length + m ≤ 1099511627776) (hbase : base ≤ w.heap.size)
    (h : ∀ v' w', w'.ownsRow base e 1 v' (xs ++ ys).length (ints (xs ++ ys)) → Below base w w' → w.grownBy w' v.ownBlock → K (a.put o.dst v') w') :
    o.wp P a w K Q := by
  obtain ⟨i0, hi, hz0, hz1, hz2⟩ := info_parts inf
  have hl := hr.len
  cases A with
  | none =>
    have hm : m = 0 := by
      rcases Nat.eq_zero_or_pos m with h0 | h0
      · exact h0
      · obtain ⟨_, _, he, _⟩ := hr.2 h0; cases he
    subst hm
    have hc := hA rfl
    subst hc
    have hy : ys = [] := List.eq_nil_of_length_eq_zero hl
    subst hy
    have hrun := run_append_owned_none (P := P) (w := w) base t o.type e i0 1 ht hi v xs.length _ hown
    unfold Oper.wp
    simp [execOp, ho, resolve, invoke, builtin, hs, hx, hrun, Result.andThen]
    exact h v w (by rw [List.append_nil]; exact hown) (Below.refl _ _) (World.grownBy.refl _ _)
  | some ad =>
    refine wp_append_own w s x t ho base e i0 z 1 8 ht hi hz0 hz1 hz2 hz (by omega) v xs.length _ hs hown ad m c (ints ys) hx (by simp [ints, hl]) ?_ ?_ (by unfold maxLen; omega) (by omega) hbase ?_
    · intro j u hj
      have hjl : j < m := by
        have := (List.getElem?_eq_some_iff.1 hj).1
        simp [ints] at this; omega
      obtain ⟨b, off, he, hb, hc⟩ := hr.2 (by omega)
      injection he with he
      subst he
      have e1 : (⟨b, off, none⟩ : Addr).add j = ⟨b, off + j, none⟩ := by unfold Addr.add; split <;> simp_all
      rw [e1]
      exact hc j u hj
    · intro u hu
      simp only [ints, List.mem_map] at hu
      obtain ⟨y, _, rfl⟩ := hu
      rfl
    · intro v' w' g1 g2 _
      have hlt := hown.lt
      refine h v' w' ?_ ?_ g2
      · rw [List.length_append, hl]
        have e : ints (xs ++ ys) = ints xs ++ ints ys := by simp [ints]
        rw [e]; exact g1
      · exact (Below.refl base w).grown g2 hbase (fun k hk => (hlt k hk).1)
theorem app_ints {P : Program} {w : World} {ops : Array Oper} {rest : List Oper} {o : Oper} {a : Act} {Q : Exit → Act → World → Prop}
    {base B : Nat} {v : Value} {xs : List Int} {e : Nat} (hown : w.ownsRow base e 1 v xs.length (ints xs)) (A : Option Addr) (m c : Nat) (ys : List Int) (hr : Rd w B 1 A m (ints ys)) (hA : A = none → c = 0)
    {t : TypeId} {z : Value} (ht : P.underlying t = some (.slice e)) (inf : (P.info? e).map (fun i => (i.zero, i.size, i.bytes)) = some (some z, 1, 8)) (hz : z.cells.size = 1)
    (hgd : o.guard = none) (s x : Operand) (ho : o.op = .call { callee := .builtin .append, args := #[s, x], argTypes := #[t, t] }) (hs : a.eval s = v) (hx : a.eval x = .slice A m c)
    (hn : xs.length + m ≤ 1099511627776) (hbase : base ≤ w.heap.size)
    (h : ∀ v' w', w'.ownsRow base e 1 v' (xs ++ ys).length (ints (xs ++ ys)) → Below base w w' → w.grownBy w' v.ownBlock → wpList P ops Q rest (a.put o.dst v') w') :
    wpList P ops Q (o :: rest) a w :=
  wpList_plain hgd fun K hK => wp_app_ints hown A m c ys hr hA ht inf hz s x ho hs hx hn hbase fun v' w' h1 h2 h3 => hK _ _ (h v' w' h1 h2 h3)
/-- The same as a step of a region that draws its order. -/
theorem step_app_ints {P : Program} {ops : Array Oper} {o : Oper} {a : Act} {w : World} {K : Act → World → Prop} {Q : Exit → Act → World → Prop} {E : Prop}
    {base B : Nat} {v : Value} {xs : List Int} {e : Nat} (hown : w.ownsRow base e 1 v xs.length (ints xs)) (A : Option Addr) (m c : Nat) (ys : List Int) (hr : Rd w B 1 A m (ints ys)) (hA : A = none → c = 0)
    {t : TypeId} {z : Value} (ht : P.underlying t = some (.slice e)) (inf : (P.info? e).map (fun i => (i.zero, i.size, i.bytes)) = some (some z, 1, 8)) (hz : z.cells.size = 1)
    (hgd : o.guard = none) (s x : Operand) (ho : o.op = .call { callee := .builtin .append, args := #[s, x], argTypes := #[t, t] }) (hs : a.eval s = v) (hx : a.eval x = .slice A m c)
    (hn : xs.length + m ≤ 1099511627776) (hbase : base ≤ w.heap.size)
    (h : ∀ v' w', w'.ownsRow base e 1 v' (xs ++ ys).length (ints (xs ++ ys)) → Below base w w' → w.grownBy w' v.ownBlock → K (a.put o.dst v') w') :
    if Region.wanted o (yielded ops a.tmps) = true then Oper.wp P o a w K Q else E := by
  have hw : Region.wanted o (yielded ops a.tmps) = true := by simp [Region.wanted, hgd]
  rw [if_pos hw]
  exact wp_app_ints hown A m c ys hr hA ht inf hz s x ho hs hx hn hbase h

theorem own_form2 {w : World} {base e sz n : Nat} {v : Value} {xs : List Value} (h : w.ownsRow base e sz v n xs) : ∃ A c, v = .slice A n c ∧ (A = none → c = 0) ∧ n ≤ c := by
  rcases h.2 with ⟨rfl, rfl⟩ | ⟨g, cap, cur, rfl, hge, hh, r⟩
  · exact ⟨none, 0, rfl, fun _ => rfl, Nat.le_refl _⟩
  · exact ⟨_, _, rfl, fun h => (by cases h), by first | exact r.1 | omega | simp_all⟩

/-- A part of a slice. -/
theorem Rd.cut {w : World} {B n i k : Nat} {b off : Nat} {xs : List Int} (h : Rd w B 1 (some ⟨b, off, none⟩) n (ints xs)) (hik : i ≤ k) (hk : k ≤ n) : Rd w B 1 (some ⟨b, off + i, none⟩) (k - i) (ints ((xs.take k).drop i)) := by
  have hl := h.len
  refine ⟨by simp [ints]; omega, fun h0 => ?_⟩
  obtain ⟨b', off', he, hb, hc⟩ := h.2 (by omega)
  injection he with he
  injection he with e1 e2
  subst e1 e2
  refine ⟨b, off + i, rfl, hb, fun j u hu => ?_⟩
  have hj : j < k - i := by
    have := (List.getElem?_eq_some_iff.1 hu).1
    simp [ints] at this; omega
  have hu2 : (ints xs)[i + j]? = some u := by
    rw [← hu]
    simp only [ints, List.getElem?_map, List.getElem?_drop, List.getElem?_take]
    rw [if_pos (by omega)]
  have := hc (i + j) u hu2
  rw [show off + i + j = off + (i + j) by omega]
  exact this
theorem copyNumbers_any (A : Option Addr) (n c : Nat) (p : List Int) (w : World) (hn : n ≤ 1099511627776) (hA : A = none → c = 0) (hr : Rd w w.heap.size 1 A n (ints p)) :
    Calls Try.prog 109 #[.slice A n c] w fun e w' => ∃ v, e = .returned v ∧ w'.ownsRow w.heap.size 2 1 v n (ints p) ∧ Below w.heap.size w w' := by
  have hl := hr.len
  go_enter Try.func109, Try.ntmps109
  go_wp2_with (at_builtin; refine app_ints (xs := []) (World.ownsRow_lit (base := w.heap.size) w #[] (e := 2) (size := 1) 0 (by omega) (by simp [maxLen]) rfl) A n c p (hr.alloc (Nat.le_refl _) _) hA Try.underlying43 inf_int rfl rfl _ _ rfl rfl rfl (by simp; omega) (by simp) ?_; intro v1 w1 ho1 hb1 hg1)
  go_ret
  refine ⟨_, rfl, ?_, (by repeat' (first | exact Below.refl _ _ | (with_reducible assumption) | (with_reducible refine Below.alloc ?_ ?_ _) | (with_reducible refine Below.setCell ?_ ?_ _) | (with_reducible refine Below.drew ?_) | (with_reducible refine below_drewN ?_ _) | (refine Below.trans ?_ (Below.mono (by assumption) ?_)) | (with_reducible exact Nat.le_refl _) | (with_reducible assumption) | (exact Below.size (by assumption)) | omega | go_size | (simp at *; omega)))⟩
  simp only [List.nil_append, hl] at ho1
  exact ho1
theorem l00Own_any (A : Option Addr) (n c : Nat) (p : List Int) (w : World) (hn : n ≤ 1099511627776) (hA : A = none → c = 0) (hr : Rd w w.heap.size 1 A n (ints p)) :
    Calls Try.prog 110 #[.slice A n c] w fun e w' => ∃ v, e = .returned v ∧ w'.ownsRow w.heap.size 2 1 v n (ints p) ∧ Below w.heap.size w w' := by
  have hl := hr.len
  go_enter Try.func110, Try.ntmps110
  go_wp2_with (at_builtin; refine app_ints (xs := []) (World.ownsRow_lit (base := w.heap.size) w #[] (e := 2) (size := 1) 0 (by omega) (by simp [maxLen]) rfl) A n c p (hr.alloc (Nat.le_refl _) _) hA Try.underlying43 inf_int rfl rfl _ _ rfl rfl rfl (by simp; omega) (by simp) ?_; intro v1 w1 ho1 hb1 hg1)
  go_ret
  refine ⟨_, rfl, ?_, (by repeat' (first | exact Below.refl _ _ | (with_reducible assumption) | (with_reducible refine Below.alloc ?_ ?_ _) | (with_reducible refine Below.setCell ?_ ?_ _) | (with_reducible refine Below.drew ?_) | (with_reducible refine below_drewN ?_ _) | (refine Below.trans ?_ (Below.mono (by assumption) ?_)) | (with_reducible exact Nat.le_refl _) | (with_reducible assumption) | (exact Below.size (by assumption)) | omega | go_size | (simp at *; omega)))⟩
  simp only [List.nil_append, hl] at ho1
  exact ho1
end Go.Proofs.Ytlbhfjbbkkkldaa
