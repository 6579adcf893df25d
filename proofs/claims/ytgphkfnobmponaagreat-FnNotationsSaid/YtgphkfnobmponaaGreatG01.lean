/- Several texts in one: Kit, Tl, Tx. -/
import Derived.WalkKit
import Derived.ProofKit
import Derived.OpenShut
import Derived.Handy
import Derived.WalkSmall
import Derived.Laws.BytesArg
/- Small lemmas on worlds for the walks of this seat; nothing of the program is named here. -/
namespace Go.Proofs.YtgphkfnobmponaaGreat
open Go.RowKit
set_option linter.unusedVariables false

theorem hid {p : Prop} (h : p) : Hid p := h

theorem bcell {W w1 : World} (hb : Below W.heap.size W w1) : (∀ b o, b < W.heap.size → w1.cell? ⟨b, o, none⟩ = W.cell? ⟨b, o, none⟩) ∧ (∀ b o, b < W.heap.size → w1.frozen? ⟨b, o, none⟩ = W.frozen? ⟨b, o, none⟩) ∧ W.heap.size ≤ w1.heap.size ∧ (∀ b, b < W.heap.size → b < w1.heap.size) :=
  ⟨fun b o h => hb.cell (p := ⟨b, o, none⟩) h, fun b o h => hb.frozen (p := ⟨b, o, none⟩) h, hb.size, fun _ h => Nat.lt_of_lt_of_le h hb.size⟩

theorem bchain {W0 W w1 : World} (h : Below W0.heap.size W0 W) (k : Below W.heap.size W w1) : Below W0.heap.size W0 w1 := h.trans (k.mono h.size)

def betweenB (n low high : Int) : Bool := decide (low ≤ n) && decide (n ≤ high)

theorem betweenB_iff (n l h : Int) : betweenB n l h = true ↔ l ≤ n ∧ n ≤ h := by simp [betweenB]

theorem ret_bool {a b : Bool} (h : a = b) : Ending.returned (.bool a) = .returned (.bool b) := by rw [h]
theorem ret_int {a b : Int} (h : a = b) : Ending.returned (.int .i64 a) = .returned (.int .i64 b) := by rw [h]

/-- A slice of numbers that came in: it reads as the list xs. -/
def Came (k : IntKind) (w : World) (A : Option Addr) (len cap : Nat) (xs : List Int) : Prop :=
  xs.length = len ∧ len ≤ cap ∧ cap ≤ maxLen ∧ (∀ x ∈ xs, (Lit.int k x).wf = true) ∧
  (0 < len → ∃ b off, A = some ⟨b, off, none⟩ ∧ b < w.heap.size ∧ ∀ j x, xs[j]? = some x → w.cell? ⟨b, off + j, none⟩ = some (.int k x))
theorem Came.nil (k : IntKind) (w : World) : Came k w none 0 0 [] := ⟨rfl, Nat.le_refl _, by simp [maxLen], by simp, fun h => absurd h (by omega)⟩
theorem Came.mk {k : IntKind} {w : World} {a : Addr} {len cap : Nat} {zs : List Int} (hl : len ≤ cap) (hm : cap ≤ maxLen) (hz : zs.length = cap)
    (hc : ∀ i, i < zs.length → w.cell? (a.add i) = some (.int k (zs.getD i 0))) (hw : ∀ n ∈ zs, (Lit.int k n).wf = true) : Came k w (some a) len cap (zs.take len) := by
  refine ⟨by simp [hz]; omega, hl, hm, fun x hx => hw x (List.mem_of_mem_take hx), fun h0 => ?_⟩
  obtain ⟨b, off, spot⟩ := a
  have h1 := hc 0 (by omega)
  have hs : spot = none := by simpa [Addr.add] using World.cell?_spot h1
  subst hs
  have hcell : ∀ j x, (zs.take len)[j]? = some x → w.cell? ⟨b, off + j, none⟩ = some (.int k x) := by
    intro j x hj
    rw [List.getElem?_take] at hj
    split at hj
    · have hlt : j < zs.length := by
        rcases Nat.lt_or_ge j zs.length with h | h
        · exact h
        · rw [List.getElem?_eq_none h] at hj; cases hj
      have h2 := hc j hlt
      have e : (⟨b, off, none⟩ : Addr).add j = ⟨b, off + j, none⟩ := by unfold Addr.add; split <;> simp_all
      rw [e] at h2
      rw [h2, List.getD_eq_getElem?_getD, hj]; rfl
    · cases hj
  refine ⟨b, off, rfl, ?_, hcell⟩
  have e : (⟨b, off, none⟩ : Addr).add 0 = ⟨b, off, none⟩ := rfl
  rw [e] at h1
  exact World.block_lt_of_cell? w _ h1

/-- A slice value of n elements, sz cells each, reads as the cells us, below block B. -/
def Rd (w : World) (B sz : Nat) (A : Option Addr) (n : Nat) (us : List Value) : Prop :=
  us.length = n * sz ∧ (0 < n → ∃ b off, A = some ⟨b, off, none⟩ ∧ b < B ∧ ∀ j u, us[j]? = some u → w.cell? ⟨b, off + j, none⟩ = some u)

section
variable {w w' : World} {B B' sz n : Nat} {A : Option Addr} {us : List Value}
theorem Rd.keep (h : Rd w B sz A n us) (hk : ∀ p : Addr, p.block < B → w'.cell? p = w.cell? p) : Rd w' B sz A n us :=
  ⟨h.1, fun hn => by
    obtain ⟨b, off, e, hb, hc⟩ := h.2 hn
    exact ⟨b, off, e, hb, fun j u hu => (hk _ hb).trans (hc j u hu)⟩⟩
theorem Rd.more (h : Rd w B sz A n us) (hB : B ≤ B') : Rd w B' sz A n us :=
  ⟨h.1, fun hn => by
    obtain ⟨b, off, e, hb, hc⟩ := h.2 hn
    exact ⟨b, off, e, Nat.lt_of_lt_of_le hb hB, hc⟩⟩
theorem Rd.below {C : Nat} (h : Rd w B sz A n us) (hb : Below C w w') (hB : B ≤ C) : Rd w' B sz A n us := h.keep fun _ hp => hb.cell (Nat.lt_of_lt_of_le hp hB)
theorem Rd.drew (h : Rd w B sz A n us) : Rd w.drew B sz A n us := h
theorem Rd.alloc (h : Rd w B sz A n us) (hB : B ≤ w.heap.size) (o : Obj) : Rd (w.alloc o) B sz A n us := h.keep fun p hp => World.cell?_alloc_lt w o p (Nat.lt_of_lt_of_le hp hB)
theorem Rd.of_own {base : Nat} {e : TypeId} {c : Nat} (h : w.ownsRow base e sz (.slice A n c) n us) : Rd w w.heap.size sz A n us := by
  refine ⟨h.1, fun hn => ?_⟩
  rcases h.2 with ⟨hv, h0⟩ | ⟨g, cap, cur, hv, hg, hh, r⟩
  · omega
  · have hA : A = some ⟨g, 0, none⟩ := by injection hv
    subst hA
    refine ⟨g, 0, rfl, (Array.getElem?_eq_some_iff.1 hh).1, fun j u hu => ?_⟩
    have h1 := h.cells (g := g) rfl j u hu
    have e : (⟨g, 0, none⟩ : Addr).add j = ⟨g, 0 + j, none⟩ := by unfold Addr.add; split <;> simp_all
    rwa [e] at h1
theorem Rd.of_came {k : IntKind} {cap : Nat} {xs : List Int} (h : Came k w A n cap xs) : Rd w w.heap.size 1 A n (xs.map (Value.int k)) := by
  obtain ⟨h1, _, _, _, h2⟩ := h
  refine ⟨by simp [h1], fun hn => ?_⟩
  obtain ⟨b, off, e, hb, hc⟩ := h2 hn
  refine ⟨b, off, e, hb, fun j u hu => ?_⟩
  rw [List.getElem?_map] at hu
  cases hx : xs[j]? with
  | none => rw [hx] at hu; cases hu
  | some x => rw [hx] at hu; cases hu; exact hc j x hx
theorem Rd.len {k : IntKind} {xs : List Int} (h : Rd w B 1 A n (xs.map (Value.int k))) : xs.length = n := by have := h.1; simpa using this
theorem Rd.at_ {k : IntKind} {xs : List Int} {i : Nat} (h : Rd w B 1 A n (xs.map (Value.int k))) (hi : i < n) :
    ∃ b off x, A = some ⟨b, off, none⟩ ∧ b < B ∧ xs[i]? = some x ∧ xs.drop i = x :: xs.drop (i + 1) ∧ w.cell? ⟨b, off + i, none⟩ = some (.int k x) := by
  obtain ⟨b, off, e, hb, hc⟩ := h.2 (by omega)
  have hl : i < xs.length := by have := h.len; omega
  exact ⟨b, off, xs[i], e, hb, List.getElem?_eq_getElem hl, List.drop_eq_getElem_cons hl, hc i _ (by rw [List.getElem?_map, List.getElem?_eq_getElem hl]; rfl)⟩
end

/-- An owned row under writes to none of its block. -/
theorem own_below {w w' : World} {base e sz n : Nat} {v : Value} {xs : List Value} (h : w.ownsRow base e sz v n xs) (hb : Below w.heap.size w w') : w'.ownsRow base e sz v n xs := by
  refine ⟨h.1, ?_⟩
  rcases h.2 with hn | ⟨g, cap, cur, rfl, hg, hh, r⟩
  · exact .inl hn
  · exact .inr ⟨g, cap, cur, rfl, hg, by rw [hb.block g (Array.getElem?_eq_some_iff.1 hh).1]; exact hh, r⟩
theorem own_more {w : World} {base base' e sz n : Nat} {v : Value} {xs : List Value} (h : w.ownsRow base e sz v n xs) (hb : base' ≤ base) : w.ownsRow base' e sz v n xs := by
  refine ⟨h.1, ?_⟩
  rcases h.2 with hn | ⟨g, cap, cur, rfl, hg, r⟩
  · exact .inl hn
  · exact .inr ⟨g, cap, cur, rfl, Nat.le_trans hb hg, r⟩
theorem own_form {w : World} {base e sz n : Nat} {v : Value} {xs : List Value} (h : w.ownsRow base e sz v n xs) : ∃ A c, v = .slice A n c := by
  rcases h.2 with ⟨rfl, rfl⟩ | ⟨g, cap, cur, rfl, _⟩
  · exact ⟨none, 0, rfl⟩
  · exact ⟨_, _, rfl⟩

/-- 'append(out, x)': one element more, out the call's own. -/
theorem push_own {P : Program} {w : World} {ops : Array Oper} {rest : List Oper} {o : Oper} {a : Act} {Q : Exit → Act → World → Prop}
    {base : Nat} {v : Value} {n : Nat} {xs : List Value} {e sz : Nat} (hown : w.ownsRow base e sz v n xs) (us : Array Value) (e2 : TypeId)
    {t : TypeId} {z : Value} {by_ : Nat} (ht : P.underlying t = some (.slice e)) (inf : (P.info? e).map (fun i => (i.zero, i.size, i.bytes)) = some (some z, sz, by_)) (hz : z.cells.size = sz) (hsz : 0 < sz)
    (hgd : o.guard = none) (s x : Operand) (ho : o.op = .call { callee := .builtin .append, args := #[s, x], argTypes := #[t, t] }) (hs : a.eval s = v) (hx : a.eval x = .slice (some ⟨w.heap.size, 0, none⟩) 1 1)
    (hl : us.size = sz) (h1 : ∀ u ∈ us.toList, u.oneCell' = true) (hn : n ≤ 1099511627776) (hby : by_ ≤ 64) (hbase : base ≤ w.heap.size)
    (h : ∀ v' w', w'.ownsRow base e sz v' (n + 1) (xs ++ us.toList) → Below base w w' → w.grownBy w' v.ownBlock → wpList P ops Q rest (a.put o.dst v') w') :
    wpList P ops Q (o :: rest) a (w.alloc (.cells us e2)) := by
  obtain ⟨i0, hi, hz0, hz1, hz2⟩ := info_parts inf
  refine wpList_append_own _ hgd s x t ho base e i0 z sz by_ ht hi hz0 hz1 hz2 hz hsz v n xs hs (hown.alloc _) ⟨w.heap.size, 0, none⟩ 1 1 us.toList hx (by simp [hl]) ?_ h1 (by unfold maxLen; omega) ?_ (by simp; omega) ?_
  · intro j u hj
    have e1 : (⟨w.heap.size, 0, none⟩ : Addr).add j = ⟨w.heap.size, j, none⟩ := by unfold Addr.add; split <;> simp_all
    rw [e1, World.cell?_alloc_at _ _ _ _ rfl]
    simpa using hj
  · have := Nat.mul_le_mul (show n + 1 ≤ 1099511627777 by omega) hby
    omega
  · intro v' w' g1 g2 _
    have hlt := hown.lt
    refine h v' w' g1 ((Below.refl base w).alloc hbase _ |>.grown g2 (by simp; omega) (fun k hk => (hlt k hk).1)) ⟨g2.os, g2.tape, g2.output, Nat.le_trans (by simp) g2.size, fun k hk hne => (g2.block k (by simp; omega) hne).trans (Below.heap_alloc _ _ _ hk)⟩

/-- 'make([]T, n)', elements of one cell. -/
theorem make_own {P : Program} {w : World} {ops : Array Oper} {rest : List Oper} {o : Oper} {a : Act} {Q : Exit → Act → World → Prop}
    (base : Nat) {e by_ : Nat} {t : TypeId} {z : Value} (ht : P.underlying t = some (.slice e)) (inf : (P.info? e).map (fun i => (i.zero, i.size, i.bytes)) = some (some z, 1, by_)) (hz : z.cells = #[z])
    (hgd : o.guard = none) (l c : Operand) (hop : o.op = Op.makeSlice t l c) (kl kc : IntKind) (n : Nat) (hl : a.eval l = .int kl (n : Int)) (hc : a.eval c = .int kc (n : Int))
    (hn : n ≤ 1099511627776) (hby : by_ ≤ 64) (hbase : base ≤ w.heap.size)
    (hK : ∀ w', w'.ownsRow base e 1 (.slice (some ⟨w.heap.size, 0, none⟩) n n) n (List.replicate n z) → Below w.heap.size w w' → w.heap.size < w'.heap.size → wpList P ops Q rest (a.put o.dst (.slice (some ⟨w.heap.size, 0, none⟩) n n)) w') :
    wpList P ops Q (o :: rest) a w := by
  obtain ⟨i0, hi, hz0, hz1, hz2⟩ := info_parts inf
  refine wpList_make_full _ hgd l c t hop base e i0 z 1 ht hi hz0 hz1 kl kc _ _ n hl hc rfl rfl ?_ (by unfold maxLen; omega) hbase ?_
  · rw [hz2]
    have := Nat.mul_le_mul hby hn
    omega
  · intro w' h1 h2
    rw [hz, Nat.mul_one, toList_madeCells_one] at h1
    refine hK w' h1 ⟨h2.os, h2.tape, h2.output, h2.size, fun k hk => h2.block k hk (by simp)⟩ ?_
    rcases h1.2 with ⟨hv, _⟩ | ⟨g, cap, cur, hv, _, hh, _⟩
    · simp at hv
    · have : g = w.heap.size := by injection hv with hv; injection hv with hv; injection hv with hv; exact hv.symm
      subst this
      exact (Array.getElem?_eq_some_iff.1 hh).1

/-- Numbers as cells. -/
def ints (xs : List Int) : List Value := xs.map (Value.int .i64)
theorem ints_snoc (xs : List Int) (x : Int) : ints xs ++ [Value.int .i64 x] = ints (xs ++ [x]) := by simp [ints]

/-- 'append(out, x)', x an int64. -/
theorem push_int {P : Program} {w : World} {ops : Array Oper} {rest : List Oper} {o : Oper} {a : Act} {Q : Exit → Act → World → Prop}
    {base : Nat} {v : Value} {xs : List Int} {e : Nat} (hown : w.ownsRow base e 1 v xs.length (ints xs)) (y : Int) (e2 : TypeId)
    {t : TypeId} {z : Value} (ht : P.underlying t = some (.slice e)) (inf : (P.info? e).map (fun i => (i.zero, i.size, i.bytes)) = some (some z, 1, 8)) (hz : z.cells.size = 1)
    (hgd : o.guard = none) (s x : Operand) (ho : o.op = .call { callee := .builtin .append, args := #[s, x], argTypes := #[t, t] }) (hs : a.eval s = v) (hx : a.eval x = .slice (some ⟨w.heap.size, 0, none⟩) 1 1)
    (hn : xs.length ≤ 1099511627776) (hbase : base ≤ w.heap.size)
    (h : ∀ v' w', w'.ownsRow base e 1 v' (xs ++ [y]).length (ints (xs ++ [y])) → Below base w w' → w.grownBy w' v.ownBlock → wpList P ops Q rest (a.put o.dst v') w') :
    wpList P ops Q (o :: rest) a (w.alloc (.cells #[.int .i64 y] e2)) := by
  refine push_own hown #[.int .i64 y] e2 ht inf hz (by omega) hgd s x ho hs hx rfl ?_ hn (by omega) hbase fun v' w' h1 h2 h3 => h v' w' ?_ h2 h3
  · intro u hu; simp at hu; subst hu; rfl
  · rw [← ints_snoc, List.length_append]; simpa using h1

/-- Rows of different element types never share a block: the one stays while the other is written. -/
theorem own_types {w w' : World} {b1 e1 s1 n1 b2 e2 s2 n2 : Nat} {v1 v2 : Value} {xs1 xs2 : List Value} (h1 : w.ownsRow b1 e1 s1 v1 n1 xs1) (h2 : w.ownsRow b2 e2 s2 v2 n2 xs2) (hne : e1 ≠ e2) (hg : w.grownBy w' v2.ownBlock) : w'.ownsRow b1 e1 s1 v1 n1 xs1 := by
  refine h1.kept hg ?_
  rcases h1.2 with ⟨rfl, _⟩ | ⟨g, cap, cur, rfl, _, hh, _⟩
  · exact .inl rfl
  · refine .inr fun e => ?_
    rcases h2.2 with ⟨rfl, _⟩ | ⟨g', cap', cur', rfl, _, hh', _⟩
    · simp [Value.ownBlock] at e
    · simp [Value.ownBlock] at e
      subst e
      rw [hh] at hh'
      injection hh' with hh'
      injection hh' with _ ht
      exact hne ht

/-- Block g is just the cells cs. -/
def Bx (w : World) (g : Nat) (t : TypeId) (cs : Array Value) : Prop := w.heap[g]? = some (.cells cs t (0, 0))
section
variable {w w' : World} {g : Nat} {t : TypeId} {cs : Array Value}
theorem Bx.lt (h : Bx w g t cs) : g < w.heap.size := (Array.getElem?_eq_some_iff.1 h).1
theorem Bx.cell (h : Bx w g t cs) (i : Nat) : w.cell? ⟨g, i, none⟩ = cs[i]? := cell_of_row w g i cs t (0, 0) h
theorem Bx.frozen (h : Bx w g t cs) (i : Nat) : w.frozen? ⟨g, i, none⟩ = false := by
  unfold Bx at h
  simp [World.frozen?, h]
theorem Bx.new (w : World) (t : TypeId) (cs : Array Value) : Bx (w.alloc (.cells cs t)) w.heap.size t cs := heap_alloc_new w _
theorem Bx.alloc (h : Bx w g t cs) (o : Obj) : Bx (w.alloc o) g t cs := (Below.heap_alloc w o g h.lt).trans h
theorem Bx.set_ (h : Bx w g t cs) (i : Nat) (u : Value) : Bx (w.setCell ⟨g, i, none⟩ u) g t (cs.setIfInBounds i u) := heap_setCell_same w g i cs t u h
theorem Bx.far (h : Bx w g t cs) {p : Addr} (hp : g ≠ p.block) (u : Value) : Bx (w.setCell p u) g t cs := (Below.heap_setCell w p u g hp).trans h
theorem Bx.below {B : Nat} (h : Bx w g t cs) (hb : Below B w w') (hg : g < B) : Bx w' g t cs := (hb.block g hg).trans h
theorem Bx.grown {row : Option Nat} (h : Bx w g t cs) (hb : w.grownBy w' row) (hg : some g ≠ row) : Bx w' g t cs := (hb.block g h.lt hg).trans h
theorem Bx.drewN (h : Bx w g t cs) (n : Nat) : Bx (w.drewN n) g t cs := h
theorem Bx.drew (h : Bx w g t cs) : Bx w.drew g t cs := h
end

theorem Came.bytes {w : World} {A : Option Addr} {n c : Nat} {xs : List Int} (h : Came .u8 w A n c xs) : ∀ x ∈ xs, 0 ≤ x ∧ x ≤ 255 := by
  intro x hx
  have hw := h.2.2.2.1 x hx
  simp [Lit.wf, IntKind.min, IntKind.max, IntKind.bits, IntKind.signed] at hw
  omega

end Go.Proofs.YtgphkfnobmponaaGreat

/- Plain facts: texts as lists of bytes, cuts and parts. Nothing of the program is named here. -/
namespace Go.Proofs.YtgphkfnobmponaaGreat
open Go.RowKit
set_option linter.unusedVariables false

/-- The bytes of a text. -/
def tl (s : ByteArray) : List UInt8 := s.data.toList
/-- The text of bytes. -/
def st (l : List UInt8) : ByteArray := ⟨l.toArray⟩
theorem tl_st (l : List UInt8) : tl (st l) = l := by simp [tl, st]
theorem st_tl (s : ByteArray) : st (tl s) = s := by obtain ⟨d⟩ := s; simp [tl, st]
theorem tl_len (s : ByteArray) : (tl s).length = s.size := by simp [tl]
theorem st_size (l : List UInt8) : (st l).size = l.length := by rw [← tl_len, tl_st]
theorem tl_inj {a b : ByteArray} (h : tl a = tl b) : a = b := by rw [← st_tl a, ← st_tl b, h]
theorem tl_append (a b : ByteArray) : tl (a ++ b) = tl a ++ tl b := by
  obtain ⟨a⟩ := a; obtain ⟨b⟩ := b
  rw [ByteArray.mk_append_mk]; simp [tl]
theorem st_append (a b : List UInt8) : st a ++ st b = st (a ++ b) := tl_inj (by rw [tl_append, tl_st, tl_st, tl_st])
theorem tl_extract (s : ByteArray) (a b : Nat) : tl (s.extract a b) = ((tl s).take b).drop a := by
  unfold tl
  rw [ByteArray.data_extract, Array.toList_extract, List.extract_eq_take_drop, List.drop_take]
theorem tl_at (s : ByteArray) (k : Nat) (h : k < s.size) : (tl s)[k]? = some s[k] := by
  rw [List.getElem?_eq_getElem (by rw [tl_len]; exact h)]; rfl
theorem tl_drop (s : ByteArray) (k : Nat) (h : k < s.size) : (tl s).drop k = s[k] :: (tl s).drop (k + 1) := by
  rw [List.drop_eq_getElem_cons (by rw [tl_len]; exact h)]; rfl
theorem tl_empty {s : ByteArray} : s.toList.isEmpty = decide (tl s = []) := by
  rw [ByteArray.toList_eq]
  show (tl s).isEmpty = _
  cases tl s <;> simp

/-- What stands in front of the first place of a byte, what behind it, and whether there is one. -/
def cutL (c : UInt8) : List UInt8 → List UInt8 × List UInt8 × Bool
  | [] => ([], [], false)
  | x :: r => if x = c then ([], r, true) else (x :: (cutL c r).1, (cutL c r).2.1, (cutL c r).2.2)
theorem cutL_yes {c : UInt8} : ∀ {a : List UInt8} (b : List UInt8), c ∉ a → cutL c (a ++ c :: b) = (a, b, true) := by
  intro a
  induction a with
  | nil => intro b _; simp [cutL]
  | cons x a ih =>
    intro b h
    rw [List.mem_cons, not_or] at h
    rw [List.cons_append, cutL, if_neg (fun e => h.1 e.symm), ih b h.2]
theorem cutL_not {c : UInt8} : ∀ {a : List UInt8}, c ∉ a → cutL c a = (a, [], false) := by
  intro a
  induction a with
  | nil => intro _; rfl
  | cons x a ih =>
    intro h
    rw [List.mem_cons, not_or] at h
    rw [cutL, if_neg (fun e => h.1 e.symm), ih h.2]
theorem cutL_spec (c : UInt8) (l : List UInt8) : ((cutL c l).2.2 = true ∧ l = (cutL c l).1 ++ c :: (cutL c l).2.1 ∧ c ∉ (cutL c l).1) ∨ ((cutL c l).2.2 = false ∧ c ∉ l ∧ (cutL c l).1 = l ∧ (cutL c l).2.1 = []) := by
  induction l with
  | nil => right; exact ⟨rfl, by simp, rfl, rfl⟩
  | cons x r ih =>
    by_cases hx : x = c
    · subst hx
      left
      rw [cutL, if_pos rfl]
      exact ⟨rfl, rfl, by simp⟩
    · rw [cutL, if_neg hx]
      rcases ih with ⟨h1, h2, h3⟩ | ⟨h1, h2, h3, h4⟩
      · left
        refine ⟨h1, ?_, ?_⟩
        · rw [List.cons_append, ← h2]
        · rw [List.mem_cons, not_or]; exact ⟨fun e => hx e.symm, h3⟩
      · right
        refine ⟨h1, ?_, ?_, h4⟩
        · rw [List.mem_cons, not_or]; exact ⟨fun e => hx e.symm, h2⟩
        · rw [h3]
/-- The parts of a text between bytes. -/
def splitL (c : UInt8) : List UInt8 → List (List UInt8)
  | [] => [[]]
  | x :: r => if x = c then [] :: splitL c r else (match splitL c r with
    | p :: ps => (x :: p) :: ps
    | [] => [[x]])
theorem splitL_not {c : UInt8} : ∀ {a : List UInt8}, c ∉ a → splitL c a = [a] := by
  intro a
  induction a with
  | nil => intro _; rfl
  | cons x a ih =>
    intro h
    rw [List.mem_cons, not_or] at h
    rw [splitL, if_neg (fun e => h.1 e.symm), ih h.2]
theorem splitL_yes {c : UInt8} : ∀ {a : List UInt8} (b : List UInt8), c ∉ a → splitL c (a ++ c :: b) = a :: splitL c b := by
  intro a
  induction a with
  | nil => intro b _; simp [splitL]
  | cons x a ih =>
    intro b h
    rw [List.mem_cons, not_or] at h
    rw [List.cons_append, splitL, if_neg (fun e => h.1 e.symm), ih b h.2]
theorem splitL_cut (c : UInt8) (l : List UInt8) : splitL c l = if (cutL c l).2.2 then (cutL c l).1 :: splitL c (cutL c l).2.1 else [l] := by
  rcases cutL_spec c l with ⟨h1, h2, h3⟩ | ⟨h1, h2, h3, h4⟩
  · rw [if_pos h1]
    conv => lhs; rw [h2]
    rw [splitL_yes _ h3]
  · rw [if_neg (by rw [h1]; decide), splitL_not h2]
theorem splitL_ne (c : UInt8) (l : List UInt8) : 1 ≤ (splitL c l).length := by
  rw [splitL_cut]; split <;> simp
/-- Every part is no longer than the text; there are at most as many more. -/
theorem splitL_len (c : UInt8) : ∀ l : List UInt8, (splitL c l).length ≤ l.length + 1 ∧ ∀ p ∈ splitL c l, p.length ≤ l.length := by
  intro l
  induction l with
  | nil => simp [splitL]
  | cons x r ih =>
    rw [splitL]
    by_cases hx : x = c
    · rw [if_pos hx]
      refine ⟨by rw [List.length_cons, List.length_cons]; omega, fun p hp => ?_⟩
      rcases List.mem_cons.1 hp with rfl | h
      · simp
      · have := ih.2 p h; rw [List.length_cons]; omega
    · rw [if_neg hx]
      cases h : splitL c r with
      | nil => have := splitL_ne c r; rw [h] at this; simp at this
      | cons p ps =>
        rw [h] at ih
        simp only
        refine ⟨by have := ih.1; simp only [List.length_cons] at this ⊢; omega, fun q hq => ?_⟩
        rcases List.mem_cons.1 hq with rfl | h'
        · have := ih.2 p List.mem_cons_self; simp only [List.length_cons]; omega
        · have := ih.2 q (List.mem_cons_of_mem _ h'); rw [List.length_cons]; omega
end Go.Proofs.YtgphkfnobmponaaGreat

/- Texts: bytes that are appended one by one, and the string that is made of them. -/
namespace Go.Proofs.YtgphkfnobmponaaGreat
open Go.RowKit
set_option linter.unusedVariables false

/-- Bytes as cells. -/
def byts (xs : List Int) : List Value := xs.map (Value.int .u8)
theorem byts_snoc (xs : List Int) (x : Int) : byts xs ++ [Value.int .u8 x] = byts (xs ++ [x]) := by simp [byts]
theorem push_u8 {P : Program} {w : World} {ops : Array Oper} {rest : List Oper} {o : Oper} {a : Act} {Q : Exit → Act → World → Prop}
    {base : Nat} {v : Value} {xs : List Int} {e : Nat} (hown : w.ownsRow base e 1 v xs.length (byts xs)) (y : Int) (e2 : TypeId)
    {t : TypeId} {z : Value} (ht : P.underlying t = some (.slice e)) (inf : (P.info? e).map (fun i => (i.zero, i.size, i.bytes)) = some (some z, 1, 1)) (hz : z.cells.size = 1)
    (hgd : o.guard = none) (s x : Operand) (ho : o.op = .call { callee := .builtin .append, args := #[s, x], argTypes := #[t, t] }) (hs : a.eval s = v) (hx : a.eval x = .slice (some ⟨w.heap.size, 0, none⟩) 1 1)
    (hn : xs.length ≤ 1099511627776) (hbase : base ≤ w.heap.size)
    (h : ∀ v' w', w'.ownsRow base e 1 v' (xs ++ [y]).length (byts (xs ++ [y])) → Below base w w' → w.grownBy w' v.ownBlock → wpList P ops Q rest (a.put o.dst v') w') :
    wpList P ops Q (o :: rest) a (w.alloc (.cells #[.int .u8 y] e2)) := by
  refine push_own hown #[.int .u8 y] e2 ht inf hz (by omega) hgd s x ho hs hx rfl ?_ hn (by omega) hbase fun v' w' h1 h2 h3 => h v' w' ?_ h2 h3
  · intro u hu; simp at hu; subst hu; rfl
  · rw [← byts_snoc, List.length_append]; simpa using h1
/-- The string made of an owned row of bytes. -/
theorem string_own {P : Program} {w : World} {base e n c : Nat} {A : Option Addr} {xs : List Int} (h : w.ownsRow base e 1 (.slice A n c) n (byts xs)) (src : TypeId) (hs : P.underlying src = some (.slice e)) (he : P.underlying e = some (.int .u8)) (dst : TypeId) (hd : P.underlying dst = some .string) :
    (convert src dst (.slice A n c)).run P w = .ok (.string (strOfNums xs)) w := by
  have hlen : xs.length = n := by have := h.1; simpa [byts] using this
  rcases Nat.eq_zero_or_pos n with h0 | h0
  · subst h0
    have : xs = [] := List.eq_nil_of_length_eq_zero hlen
    subst this
    rcases A with _ | ad
    · rw [run_convert_bytes_nil w src e hs he 0 c dst hd]; rfl
    · rcases h.2 with ⟨hv, _⟩ | ⟨g, cap, cur, hv, _⟩
      · cases hv
      · injection hv with hv
        injection hv with hv
        subst hv
        exact run_convert_bytes_arg w src e hs he g 0 0 c [] rfl (fun i hi => absurd hi (by omega)) dst hd
  · obtain ⟨b, off, rfl, _, hc⟩ := (Rd.of_own h).2 h0
    refine run_convert_bytes_arg w src e hs he b off n c xs hlen (fun i hi => ?_) dst hd
    refine hc i _ ?_
    rw [byts, List.getElem?_map, List.getD_eq_getElem?_getD, List.getElem?_eq_getElem (by omega)]; rfl
end Go.Proofs.YtgphkfnobmponaaGreat
