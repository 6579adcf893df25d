/- Throws with a mark, as cells: two for each. Nothing of the program is named here. -/
import Derived.Test.YtlbhfjbbkkkldaaKit
namespace Go.Proofs.Ytlbhfjbbkkkldaa
open Go.RowKit
set_option linter.unusedVariables false

def thc (t : Int × Bool) : List Value := [.int .i64 t.1, .bool t.2]
def ths (p : List (Int × Bool)) : List Value := p.flatMap thc
theorem ths_len (p : List (Int × Bool)) : (ths p).length = p.length * 2 := by
  induction p with
  | nil => rfl
  | cons b p ih =>
    have : ths (b :: p) = thc b ++ ths p := rfl
    rw [this, List.length_append, ih, List.length_cons]
    show 2 + p.length * 2 = _
    omega
theorem ths_snoc (p : List (Int × Bool)) (b : Int × Bool) : ths p ++ thc b = ths (p ++ [b]) := by simp [ths]
theorem ths_append (p q : List (Int × Bool)) : ths p ++ ths q = ths (p ++ q) := by simp [ths]
theorem ths_at : ∀ {p : List (Int × Bool)} {i : Nat} {b : Int × Bool}, p[i]? = some b → (ths p)[i * 2]? = some (.int .i64 b.1) ∧ (ths p)[i * 2 + 1]? = some (.bool b.2) := by
  intro p
  induction p with
  | nil => intro i b h; simp at h
  | cons c p ih =>
    intro i b h
    have e : ths (c :: p) = thc c ++ ths p := rfl
    have hl : (thc c).length = 2 := rfl
    cases i with
    | zero =>
      simp at h; subst h
      rw [e]
      exact ⟨rfl, rfl⟩
    | succ i =>
      have h2 := ih (i := i) (b := b) (by simpa using h)
      rw [e]
      refine ⟨?_, ?_⟩
      · rw [List.getElem?_append_right (by omega), hl, show (i + 1) * 2 - 2 = i * 2 by omega]; exact h2.1
      · rw [List.getElem?_append_right (by omega), hl, show (i + 1) * 2 + 1 - 2 = i * 2 + 1 by omega]; exact h2.2
theorem ths_one (p : List (Int × Bool)) : ∀ u ∈ ths p, u.oneCell' = true := by
  intro u hu
  simp only [ths, List.mem_flatMap] at hu
  obtain ⟨b, _, hb⟩ := hu
  simp [thc] at hb
  rcases hb with rfl | rfl <;> rfl
theorem Rd.th_at {w : World} {B n i : Nat} {A : Option Addr} {p : List (Int × Bool)} (h : Rd w B 2 A n (ths p)) (hi : i < n) :
    ∃ b off x, A = some ⟨b, off, none⟩ ∧ b < B ∧ p[i]? = some x ∧ p.drop i = x :: p.drop (i + 1) ∧ w.cell? ⟨b, off + i * 2, none⟩ = some (.int .i64 x.1) ∧ w.cell? ⟨b, off + i * 2 + 1, none⟩ = some (.bool x.2) := by
  have hl : p.length = n := by have := h.1; rw [ths_len] at this; omega
  obtain ⟨b, off, e, hb, hc⟩ := h.2 (by omega)
  obtain ⟨x, hx⟩ : ∃ x, p[i]? = some x := ⟨_, List.getElem?_eq_getElem (by omega)⟩
  obtain ⟨c0, c1⟩ := ths_at hx
  refine ⟨b, off, x, e, hb, hx, ?_, hc _ _ c0, ?_⟩
  · obtain ⟨hl2, rfl⟩ := List.getElem?_eq_some_iff.1 hx
    exact List.drop_eq_getElem_cons hl2
  · rw [show off + i * 2 + 1 = off + (i * 2 + 1) by omega]; exact hc _ _ c1
theorem Rd.th_len {w : World} {B n : Nat} {A : Option Addr} {p : List (Int × Bool)} (h : Rd w B 2 A n (ths p)) : p.length = n := by
  have := h.1
  rw [ths_len] at this; omega
theorem ths_set0 : ∀ (q : List (Int × Bool)) (j : Nat) (v : Int), (ths q).set (j * 2) (.int .i64 v) = ths (q.set j (v, (q.getD j (0, false)).2)) := by
  intro q
  induction q with
  | nil => intro j v; rfl
  | cons b q ih =>
    intro j v
    cases j with
    | zero => rfl
    | succ j =>
      have e : ths (b :: q) = thc b ++ ths q := rfl
      have hl : (thc b).length = 2 := rfl
      rw [e, List.set_append_right _ _ (by omega), hl, show (j + 1) * 2 - 2 = j * 2 by omega, ih]; rfl
theorem ths_set1 : ∀ (q : List (Int × Bool)) (j : Nat) (v : Bool), (ths q).set (j * 2 + 1) (.bool v) = ths (q.set j ((q.getD j (0, false)).1, v)) := by
  intro q
  induction q with
  | nil => intro j v; rfl
  | cons b q ih =>
    intro j v
    cases j with
    | zero => rfl
    | succ j =>
      have e : ths (b :: q) = thc b ++ ths q := rfl
      have hl : (thc b).length = 2 := rfl
      rw [e, List.set_append_right _ _ (by omega), hl, show (j + 1) * 2 + 1 - 2 = j * 2 + 1 by omega, ih]; rfl
theorem th_one (x : Int) (b : Bool) : ∀ u ∈ (#[Value.int .i64 x, Value.bool b] : Array Value).toList, u.oneCell' = true := by
  intro u hu; simp at hu; rcases hu with rfl | rfl <;> rfl
/-- 'append(out, t)', t a throw with a mark. -/
theorem push_th {P : Program} {e t by_ : Nat} (ht : P.underlying t = some (.slice e)) (inf : (P.info? e).map (fun i => (i.zero, i.size, i.bytes)) = some (some (.agg #[.int .i64 0, .bool false]), 2, by_)) (hby : by_ ≤ 64)
    {w : World} {ops : Array Oper} {rest : List Oper} {o : Oper} {a : Act} {Q : Exit → Act → World → Prop}
    {base : Nat} {v : Value} {q : List (Int × Bool)} (hown : w.ownsRow base e 2 v q.length (ths q)) (x : Int) (b : Bool) (e2 : TypeId)
    (hgd : o.guard = none) (s z : Operand) (ho : o.op = .call { callee := .builtin .append, args := #[s, z], argTypes := #[t, t] }) (hs : a.eval s = v) {H : Nat} (hx : a.eval z = .slice (some ⟨H, 0, none⟩) 1 1) (hH : H = w.heap.size)
    (hn : q.length ≤ 1099511627776) (hbase : base ≤ w.heap.size)
    (h : ∀ v' w', w'.ownsRow base e 2 v' (q ++ [(x, b)]).length (ths (q ++ [(x, b)])) → Below base w w' → w.grownBy w' v.ownBlock → wpList P ops Q rest (a.put o.dst v') w') :
    wpList P ops Q (o :: rest) a (w.alloc (.cells #[.int .i64 x, .bool b] e2)) := by
  subst hH
  refine push_own hown #[.int .i64 x, .bool b] e2 ht inf rfl (by omega) hgd s z ho hs hx rfl (th_one x b) hn hby hbase fun v' w' h1 h2 h3 => h v' w' ?_ h2 h3
  rw [← ths_snoc, List.length_append]; exact h1
theorem th_ne {x1 y1 : Int} {x2 y2 : Bool} (h : ¬ ((x1, x2) : Int × Bool) = (y1, y2)) : x1 ≠ y1 ∨ (x1 = y1 ∧ x2 ≠ y2) := by
  by_cases h1 : x1 = y1
  · exact .inr ⟨h1, fun h2 => h (by subst h1 h2; rfl)⟩
  · exact .inl h1
end Go.Proofs.Ytlbhfjbbkkkldaa
