/- Several texts in one: O, Th. -/
import Derived.Test.YtgphkfnobmponaaGreatG02
import Derived.Test.YtgphkfnobmponaaGreatG01
/- Plain facts: where throws come from; every beat of a pattern is landed on. Nothing of the program is named here. -/
namespace Go.Proofs.YtgphkfnobmponaaGreat
open Go.RowKit
set_option linter.unusedVariables false

/-- No more numbers than places. -/
theorem pigeon : ∀ (m n : Nat) (f : Nat → Nat), (∀ i, i < n → f i < m) → (∀ i j, i < n → j < n → i ≠ j → f i ≠ f j) → n ≤ m := by
  intro m
  induction m with
  | zero =>
    intro n f h _
    rcases Nat.eq_zero_or_pos n with h0 | h0
    · omega
    · exact absurd (h 0 h0) (by omega)
  | succ m ih =>
    intro n f h hinj
    rcases Nat.eq_zero_or_pos n with h0 | h0
    · omega
    · -- the last number's place is exchanged with the last place
      obtain ⟨n', rfl⟩ : ∃ n', n = n' + 1 := ⟨n - 1, by omega⟩
      have := ih n' (fun i => if f i = m then f n' else f i) ?_ ?_
      · omega
      · intro i hi
        have h1 := h i (by omega)
        have h2 := h n' (by omega)
        have h3 := hinj i n' (by omega) (by omega) (by omega)
        try dsimp only
        split <;> omega
      · intro i j hi hj hij
        have h1 := hinj i j (by omega) (by omega) hij
        have h2 := hinj i n' (by omega) (by omega) (by omega)
        have h3 := hinj j n' (by omega) (by omega) (by omega)
        try dsimp only
        split <;> split <;> omega
/-- Distinct numbers below n, n of them, are all. -/
theorem onto (n : Nat) (f : Nat → Nat) (h : ∀ i, i < n → f i < n) (hinj : ∀ i j, i < n → j < n → i ≠ j → f i ≠ f j) (r : Nat) (hr : r < n) : ∃ i, i < n ∧ f i = r := by
  apply Classical.byContradiction
  intro hno
  have hne : ∀ i, i < n → f i ≠ r := fun i hi e => hno ⟨i, hi, e⟩
  have := pigeon (n - 1) n (fun i => if f i = n - 1 then r else f i) ?_ ?_
  · omega
  · intro i hi
    have h1 := h i hi
    have h2 := hne i hi
    try dsimp only
    split
    · rcases Nat.lt_or_eq_of_le (show r ≤ n - 1 by omega) with hl | hl
      · exact hl
      · rename_i e; omega
    · omega
  · intro i j hi hj hij
    have h1 := hinj i j hi hj hij
    have h2 := hne i hi
    have h3 := hne j hj
    try dsimp only
    split <;> split <;> omega

theorem Ld_range {p : List Int} {j : Nat} (h : 1 ≤ p.length) : 0 ≤ Ld p j ∧ Ld p j < p.length :=
  ⟨Int.emod_nonneg _ (by omega), Int.emod_lt_of_pos _ (by omega)⟩
/-- Every beat of a pattern is landed on. -/
theorem okP_onto {p : List Int} (h : okP p = true) (r : Int) (h0 : 0 ≤ r) (h1 : r < p.length) : ∃ i, i < p.length ∧ Ld p i = r := by
  have hl := (thOk_iff (okP_th h)).2.1
  obtain ⟨i, hi, e⟩ := onto p.length (fun i => (Ld p i).toNat) (fun i hi => by have := Ld_range (p := p) (j := i) hl; omega)
    (fun i j hi hj hij e => by
      have a := Ld_range (p := p) (j := i) hl
      have b := Ld_range (p := p) (j := j) hl
      exact okP_ne h hi hj hij (by omega)) r.toNat (by omega)
  have a := Ld_range (p := p) (j := i) hl
  exact ⟨i, hi, by omega⟩

/-- The first number from i on of which L says r; f numbers are looked at. -/
def srch (L : Nat → Int) (r : Int) : Nat → Nat → Option Nat
  | 0, _ => none
  | f + 1, i => if L i = r then some i else srch L r f (i + 1)
theorem srch_yes {L : Nat → Int} {r : Int} {f i : Nat} (h : L i = r) : srch L r (f + 1) i = some i := by simp [srch, h]
theorem srch_not {L : Nat → Int} {r : Int} {f i : Nat} (h : L i ≠ r) : srch L r (f + 1) i = srch L r f (i + 1) := by simp [srch, h]
theorem srch_some {L : Nat → Int} {r : Int} : ∀ {f i k : Nat}, srch L r f i = some k → i ≤ k ∧ k < i + f ∧ L k = r := by
  intro f
  induction f with
  | zero => intro i k h; cases h
  | succ f ih =>
    intro i k h
    by_cases e : L i = r
    · rw [srch_yes e] at h; cases h; exact ⟨by omega, by omega, e⟩
    · rw [srch_not e] at h; have := ih h; exact ⟨by omega, by omega, this.2.2⟩
theorem srch_none {L : Nat → Int} {r : Int} : ∀ {f i : Nat}, srch L r f i = none → ∀ k, i ≤ k → k < i + f → L k ≠ r := by
  intro f
  induction f with
  | zero => intro i _ k a b; omega
  | succ f ih =>
    intro i h k a b
    by_cases e : L i = r
    · rw [srch_yes e] at h; cases h
    · rw [srch_not e] at h
      rcases Nat.lt_or_eq_of_le a with a | rfl
      · exact ih h k a (by omega)
      · exact e
/-- Which throw of a period lands at a beat. -/
def idx (p : List Int) (b : Int) : Option Nat := srch (Ld p) (b % (p.length : Int)) p.length 0
theorem idx_some {p : List Int} (h : okP p = true) (b : Int) : ∃ i, idx p b = some i ∧ i < p.length ∧ Ld p i = b % (p.length : Int) := by
  have hl := (thOk_iff (okP_th h)).2.1
  have h0 : 0 ≤ b % (p.length : Int) := Int.emod_nonneg _ (by omega)
  have h1 : b % (p.length : Int) < p.length := Int.emod_lt_of_pos _ (by omega)
  cases hi : idx p b with
  | none =>
    obtain ⟨i, hi1, hi2⟩ := okP_onto h _ h0 h1
    exact absurd hi2 (srch_none hi i (by omega) (by omega))
  | some i =>
    have := srch_some hi
    exact ⟨i, rfl, by omega, this.2.2⟩
/-- The beat from which the prop comes that lands at the beat b. -/
def lf (p : List Int) (b : Int) : Int := match idx p b with
  | some i => b - p.getD i 0
  | none => 0
theorem lf_some {p : List Int} {b : Int} {i : Nat} (h : idx p b = some i) : lf p b = b - p.getD i 0 := by simp [lf, h]
theorem getD_bd {p : List Int} (h : thOk p = true) (i : Nat) : 0 ≤ p.getD i 0 ∧ p.getD i 0 ≤ 15 := by
  rw [List.getD_eq_getElem?_getD]
  cases hx : p[i]? with
  | none => simp
  | some x => exact (thOk_iff h).1 x (List.mem_of_getElem? hx)
theorem lf_bd {p : List Int} (h : okP p = true) (b : Int) : b - 15 ≤ lf p b ∧ lf p b ≤ b := by
  obtain ⟨i, hi, _, _⟩ := idx_some h b
  have := getD_bd (okP_th h) i
  rw [lf_some hi]; omega
/-- The number of a list at a beat. -/
def atB (p : List Int) (b : Int) : Int := p.getD (b % (p.length : Int)).toNat 0
/-- What is thrown from that beat is what lands. -/
theorem lf_at {p : List Int} (h : okP p = true) (b : Int) : atB p (lf p b) + lf p b = b := by
  obtain ⟨i, hi, hil, hL⟩ := idx_some h b
  have hn : (0 : Int) < p.length := by omega
  rw [lf_some hi]
  have e : (b - p.getD i 0) % (p.length : Int) = (i : Int) := by
    rw [Ld] at hL
    have h1 : ((i : Int) + p.getD i 0) % (p.length : Int) = b % (p.length : Int) := hL
    have h2 := Int.emod_emod_of_dvd b (Int.dvd_refl (p.length : Int))
    have h3 : (b - p.getD i 0) % (p.length : Int) = (((i : Int) + p.getD i 0) - p.getD i 0) % (p.length : Int) := by
      rw [Int.sub_emod, ← h1, ← Int.sub_emod]
    rw [h3, Int.add_sub_cancel]
    exact Int.emod_eq_of_lt (by omega) (by omega)
  rw [atB, e, Int.toNat_natCast]; omega
end Go.Proofs.YtgphkfnobmponaaGreat

/- Throws with a mark, as cells: two for each. Nothing of the program is named here. -/
namespace Go.Proofs.YtgphkfnobmponaaGreat
open Go.RowKit
set_option linter.unusedVariables false

def thc (t : Int × Bool) : List Value := [.int .i64 t.1, .bool t.2]
def ths (p : List (Int × Bool)) : List Value := p.flatMap thc
theorem ths_len (p : List (Int × Bool)) : (ths p).length = p.length * 2 := by
  induction p with
  | nil => rfl
  | cons b p ih =>
    have : ths (b :: p) = thc b ++ ths p := rfl
    rw [this, List.length_append, ih, List.length_cons]
    show 2 + p.length * 2 = _
    omega
theorem ths_snoc (p : List (Int × Bool)) (b : Int × Bool) : ths p ++ thc b = ths (p ++ [b]) := by simp [ths]
theorem ths_at : ∀ {p : List (Int × Bool)} {i : Nat} {b : Int × Bool}, p[i]? = some b → (ths p)[i * 2]? = some (.int .i64 b.1) ∧ (ths p)[i * 2 + 1]? = some (.bool b.2) := by
  intro p
  induction p with
  | nil => intro i b h; simp at h
  | cons c p ih =>
    intro i b h
    have e : ths (c :: p) = thc c ++ ths p := rfl
    have hl : (thc c).length = 2 := rfl
    cases i with
    | zero =>
      simp at h; subst h
      rw [e]
      exact ⟨rfl, rfl⟩
    | succ i =>
      have h2 := ih (i := i) (b := b) (by simpa using h)
      rw [e]
      refine ⟨?_, ?_⟩
      · rw [List.getElem?_append_right (by omega), hl, show (i + 1) * 2 - 2 = i * 2 by omega]; exact h2.1
      · rw [List.getElem?_append_right (by omega), hl, show (i + 1) * 2 + 1 - 2 = i * 2 + 1 by omega]; exact h2.2
theorem ths_one (p : List (Int × Bool)) : ∀ u ∈ ths p, u.oneCell' = true := by
  intro u hu
  simp only [ths, List.mem_flatMap] at hu
  obtain ⟨b, _, hb⟩ := hu
  simp [thc] at hb
  rcases hb with rfl | rfl <;> rfl
theorem Rd.th_at {w : World} {B n i : Nat} {A : Option Addr} {p : List (Int × Bool)} (h : Rd w B 2 A n (ths p)) (hi : i < n) :
    ∃ b off x, A = some ⟨b, off, none⟩ ∧ b < B ∧ p[i]? = some x ∧ p.drop i = x :: p.drop (i + 1) ∧ w.cell? ⟨b, off + i * 2, none⟩ = some (.int .i64 x.1) ∧ w.cell? ⟨b, off + i * 2 + 1, none⟩ = some (.bool x.2) := by
  have hl : p.length = n := by have := h.1; rw [ths_len] at this; omega
  obtain ⟨b, off, e, hb, hc⟩ := h.2 (by omega)
  obtain ⟨x, hx⟩ : ∃ x, p[i]? = some x := ⟨_, List.getElem?_eq_getElem (by omega)⟩
  obtain ⟨c0, c1⟩ := ths_at hx
  refine ⟨b, off, x, e, hb, hx, ?_, hc _ _ c0, ?_⟩
  · obtain ⟨hl2, rfl⟩ := List.getElem?_eq_some_iff.1 hx
    exact List.drop_eq_getElem_cons hl2
  · rw [show off + i * 2 + 1 = off + (i * 2 + 1) by omega]; exact hc _ _ c1
theorem Rd.th_len {w : World} {B n : Nat} {A : Option Addr} {p : List (Int × Bool)} (h : Rd w B 2 A n (ths p)) : p.length = n := by
  have := h.1
  rw [ths_len] at this; omega
theorem ths_set0 : ∀ (q : List (Int × Bool)) (j : Nat) (v : Int), (ths q).set (j * 2) (.int .i64 v) = ths (q.set j (v, (q.getD j (0, false)).2)) := by
  intro q
  induction q with
  | nil => intro j v; rfl
  | cons b q ih =>
    intro j v
    cases j with
    | zero => rfl
    | succ j =>
      have e : ths (b :: q) = thc b ++ ths q := rfl
      have hl : (thc b).length = 2 := rfl
      rw [e, List.set_append_right _ _ (by omega), hl, show (j + 1) * 2 - 2 = j * 2 by omega, ih]; rfl
theorem ths_set1 : ∀ (q : List (Int × Bool)) (j : Nat) (v : Bool), (ths q).set (j * 2 + 1) (.bool v) = ths (q.set j ((q.getD j (0, false)).1, v)) := by
  intro q
  induction q with
  | nil => intro j v; rfl
  | cons b q ih =>
    intro j v
    cases j with
    | zero => rfl
    | succ j =>
      have e : ths (b :: q) = thc b ++ ths q := rfl
      have hl : (thc b).length = 2 := rfl
      rw [e, List.set_append_right _ _ (by omega), hl, show (j + 1) * 2 + 1 - 2 = j * 2 + 1 by omega, ih]; rfl
theorem th_one (x : Int) (b : Bool) : ∀ u ∈ (#[Value.int .i64 x, Value.bool b] : Array Value).toList, u.oneCell' = true := by
  intro u hu; simp at hu; rcases hu with rfl | rfl <;> rfl
/-- 'append(out, t)', t a throw with a mark. -/
theorem push_th {P : Program} {e t by_ : Nat} (ht : P.underlying t = some (.slice e)) (inf : (P.info? e).map (fun i => (i.zero, i.size, i.bytes)) = some (some (.agg #[.int .i64 0, .bool false]), 2, by_)) (hby : by_ ≤ 64)
    {w : World} {ops : Array Oper} {rest : List Oper} {o : Oper} {a : Act} {Q : Exit → Act → World → Prop}
    {base : Nat} {v : Value} {q : List (Int × Bool)} (hown : w.ownsRow base e 2 v q.length (ths q)) (x : Int) (b : Bool) (e2 : TypeId)
    (hgd : o.guard = none) (s z : Operand) (ho : o.op = .call { callee := .builtin .append, args := #[s, z], argTypes := #[t, t] }) (hs : a.eval s = v) {H : Nat} (hx : a.eval z = .slice (some ⟨H, 0, none⟩) 1 1) (hH : H = w.heap.size)
    (hn : q.length ≤ 1099511627776) (hbase : base ≤ w.heap.size)
    (h : ∀ v' w', w'.ownsRow base e 2 v' (q ++ [(x, b)]).length (ths (q ++ [(x, b)])) → Below base w w' → w.grownBy w' v.ownBlock → wpList P ops Q rest (a.put o.dst v') w') :
    wpList P ops Q (o :: rest) a (w.alloc (.cells #[.int .i64 x, .bool b] e2)) := by
  subst hH
  refine push_own hown #[.int .i64 x, .bool b] e2 ht inf rfl (by omega) hgd s z ho hs hx rfl (th_one x b) hn hby hbase fun v' w' h1 h2 h3 => h v' w' ?_ h2 h3
  rw [← ths_snoc, List.length_append]; exact h1
theorem th_ne {x1 y1 : Int} {x2 y2 : Bool} (h : ¬ ((x1, x2) : Int × Bool) = (y1, y2)) : x1 ≠ y1 ∨ (x1 = y1 ∧ x2 ≠ y2) := by
  by_cases h1 : x1 = y1
  · exact .inr ⟨h1, fun h2 => h (by subst h1 h2; rfl)⟩
  · exact .inl h1
end Go.Proofs.YtgphkfnobmponaaGreat
