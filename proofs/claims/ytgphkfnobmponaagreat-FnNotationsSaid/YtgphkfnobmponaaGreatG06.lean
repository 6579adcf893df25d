/- Several texts in one: Ys, Pu, Jt, Mb. -/
import Derived.Test.YtgphkfnobmponaaGreatG03
import Derived.Test.YtgphkfnobmponaaGreatG05
import Derived.Maps.AppendAt
import Derived.Test.YtgphkfnobmponaaGreatG02
/- Plain facts: synchronous patterns, their mirror images and their landings. Nothing of the program is named here. -/
namespace Go.Proofs.YtgphkfnobmponaaGreat
open Go.RowKit
set_option linter.unusedVariables false

/-- A throw of a hand: how far, and whether it crosses. -/
abbrev Thr := Int × Bool
abbrev Beat := Thr × Thr
def thrOk (t : Thr) : Bool := betweenB t.1 0 14 && (t.1 % 2 == 0) && (decide (0 < t.1) || !t.2)
theorem thrOk_iff {t : Thr} : thrOk t = true ↔ (0 ≤ t.1 ∧ t.1 ≤ 14) ∧ t.1 % 2 = 0 ∧ (0 < t.1 ∨ t.2 = false) := by
  simp [thrOk, betweenB, and_assoc]
def btOk (b : Beat) : Bool := thrOk b.1 && thrOk b.2
def beatsOk (p : List Beat) : Bool := p.all btOk && betweenB p.length 1 6
theorem beatsOk_iff {p : List Beat} : beatsOk p = true ↔ (∀ b ∈ p, thrOk b.1 = true ∧ thrOk b.2 = true) ∧ 1 ≤ p.length ∧ p.length ≤ 6 := by
  simp [beatsOk, btOk, betweenB_iff]
  intro _; omega
def b0 : Beat := ((0, false), (0, false))
/-- The throw with a number: the left hand's are even. -/
def nth (p : List Beat) (k : Nat) : Thr := if k % 2 = 0 then (p.getD (k / 2) b0).1 else (p.getD (k / 2) b0).2
/-- The hand in which a throw lands. -/
def hnd (p : List Beat) (k : Nat) : Nat := if (nth p k).2 then 1 - k % 2 else k % 2
/-- Where the throw with a number lands. -/
def syL (p : List Beat) (k : Nat) : Int := (((k / 2 : Nat) : Int) + (nth p k).1 / 2) % (p.length : Int) * 2 + (hnd p k : Nat)
def syC (p : List Beat) : Option (Nat × Nat) := col2 (syL p) (2 * p.length) 0
def syOk (p : List Beat) : Bool := beatsOk p && (syC p).isNone
def rSyncClash (p : List Beat) : Int × Int × Int := if beatsOk p then colR (syC p) else (0, 0, 1)
def mirB (b : Beat) : Beat := (b.2, b.1)
def mirP (p : List Beat) : List Beat := p.map mirB
theorem mirP_len (p : List Beat) : (mirP p).length = p.length := by simp [mirP]
theorem mirP_append (p q : List Beat) : mirP (p ++ q) = mirP p ++ mirP q := by simp [mirP]
def rStarSync (p : List Beat) : List Beat × Int := if beatsOk p then (if 6 < 2 * p.length then ([], 5) else if syOk (p ++ mirP p) then (p ++ mirP p, 0) else ([], 9)) else ([], 1)
/-- Beats as cells. -/
def btC (b : Beat) : List Value := [.int .i64 b.1.1, .bool b.1.2, .int .i64 b.2.1, .bool b.2.2]
def bts (p : List Beat) : List Value := p.flatMap btC
theorem bts_len (p : List Beat) : (bts p).length = p.length * 4 := by
  induction p with
  | nil => rfl
  | cons b p ih =>
    have : bts (b :: p) = btC b ++ bts p := rfl
    rw [this, List.length_append, ih, List.length_cons]
    show 4 + p.length * 4 = _
    omega
theorem bts_snoc (p : List Beat) (b : Beat) : bts p ++ btC b = bts (p ++ [b]) := by simp [bts]
theorem bts_append (p q : List Beat) : bts p ++ bts q = bts (p ++ q) := by simp [bts]
theorem bts_at : ∀ {p : List Beat} {i : Nat} {b : Beat}, p[i]? = some b → (bts p)[i * 4]? = some (.int .i64 b.1.1) ∧ (bts p)[i * 4 + 1]? = some (.bool b.1.2) ∧ (bts p)[i * 4 + 2]? = some (.int .i64 b.2.1) ∧ (bts p)[i * 4 + 3]? = some (.bool b.2.2) := by
  intro p
  induction p with
  | nil => intro i b h; simp at h
  | cons c p ih =>
    intro i b h
    have e : bts (c :: p) = btC c ++ bts p := rfl
    have hl : (btC c).length = 4 := rfl
    cases i with
    | zero =>
      simp at h; subst h
      rw [e]
      refine ⟨rfl, rfl, rfl, rfl⟩
    | succ i =>
      have h2 := ih (i := i) (b := b) (by simpa using h)
      rw [e]
      have a0 : (i + 1) * 4 = 4 + i * 4 := by omega
      refine ⟨?_, ?_, ?_, ?_⟩
      · rw [List.getElem?_append_right (by omega), hl, show (i + 1) * 4 - 4 = i * 4 by omega]; exact h2.1
      · rw [List.getElem?_append_right (by omega), hl, show (i + 1) * 4 + 1 - 4 = i * 4 + 1 by omega]; exact h2.2.1
      · rw [List.getElem?_append_right (by omega), hl, show (i + 1) * 4 + 2 - 4 = i * 4 + 2 by omega]; exact h2.2.2.1
      · rw [List.getElem?_append_right (by omega), hl, show (i + 1) * 4 + 3 - 4 = i * 4 + 3 by omega]; exact h2.2.2.2
theorem Rd.bt_at {w : World} {B n i : Nat} {A : Option Addr} {p : List Beat} (h : Rd w B 4 A n (bts p)) (hi : i < n) :
    ∃ b off x, A = some ⟨b, off, none⟩ ∧ b < B ∧ p[i]? = some x ∧ p.drop i = x :: p.drop (i + 1) ∧ w.cell? ⟨b, off + i * 4, none⟩ = some (.int .i64 x.1.1) ∧ w.cell? ⟨b, off + i * 4 + 1, none⟩ = some (.bool x.1.2) ∧ w.cell? ⟨b, off + i * 4 + 2, none⟩ = some (.int .i64 x.2.1) ∧ w.cell? ⟨b, off + i * 4 + 3, none⟩ = some (.bool x.2.2) := by
  have hl : p.length = n := by have := h.1; rw [bts_len] at this; omega
  obtain ⟨b, off, e, hb, hc⟩ := h.2 (by omega)
  obtain ⟨x, hx⟩ : ∃ x, p[i]? = some x := ⟨_, List.getElem?_eq_getElem (by omega)⟩
  obtain ⟨c0, c1, c2, c3⟩ := bts_at hx
  refine ⟨b, off, x, e, hb, hx, ?_, hc _ _ c0, ?_, ?_, ?_⟩
  · obtain ⟨hl2, rfl⟩ := List.getElem?_eq_some_iff.1 hx
    exact List.drop_eq_getElem_cons hl2
  · rw [show off + i * 4 + 1 = off + (i * 4 + 1) by omega]; exact hc _ _ c1
  · rw [show off + i * 4 + 2 = off + (i * 4 + 2) by omega]; exact hc _ _ c2
  · rw [show off + i * 4 + 3 = off + (i * 4 + 3) by omega]; exact hc _ _ c3
theorem Rd.bt_len {w : World} {B n : Nat} {A : Option Addr} {p : List Beat} (h : Rd w B 4 A n (bts p)) : p.length = n := by
  have := h.1
  rw [bts_len] at this; omega
end Go.Proofs.YtgphkfnobmponaaGreat

/- 'append(out, x)' where out's block matters: it stays, or is new. And grids beside such a row. -/
namespace Go.Proofs.YtgphkfnobmponaaGreat
open Go.RowKit
set_option linter.unusedVariables false

/-- The block of a slice is that of another, or lies from B on. -/
def SameOr (v v' : Value) (B : Nat) : Prop := v'.ownBlock = v.ownBlock ∨ ∃ g, v'.ownBlock = some g ∧ B ≤ g
/-- The slice's block is none of the blocks from lo to hi - 1. -/
def Off (v : Value) (lo hi : Nat) : Prop := ∀ g, v.ownBlock = some g → g < lo ∨ hi ≤ g
theorem Off.same {v v' : Value} {lo hi B : Nat} (h : Off v lo hi) (k : SameOr v v' B) (hB : hi ≤ B) : Off v' lo hi := by
  intro g hg
  rcases k with k | ⟨g2, k, hb⟩
  · exact h g (k ▸ hg)
  · rw [k] at hg
    obtain rfl : g2 = g := Option.some.inj hg
    omega
theorem Grid.off {w w' : World} {base M : Nat} {v v2 : Value} {rows : List (List Int)} (h : Grid w base M v rows) (hM : ∀ g, v.ownBlock = some g → g < M) (ho : Off v2 base M) (hg : w.grownBy w' v2.ownBlock) : Grid w' base M v rows := by
  obtain ⟨vs, h1, h3, h4, h5⟩ := h
  refine ⟨vs, h1, h3.kept hg ?_, fun j u row a b => ⟨(h4 j u row a b).1.kept hg ?_, (h4 j u row a b).2⟩, h5⟩
  · cases hb : v.ownBlock with
    | none => exact .inl rfl
    | some g => exact .inr fun e => by have := ho g e.symm; have := hM g hb; have := (h3.lt g hb).1; omega
  · have hlt := (h4 j u row a b).2
    have hlo := (h4 j u row a b).1.lt
    cases hb : u.ownBlock with
    | none => exact .inl rfl
    | some g => exact .inr fun e => by have := ho g e.symm; have := hlt g hb; have := (hlo g hb).1; omega
theorem Rd.off {w w' : World} {B sz n : Nat} {A : Option Addr} {us : List Value} {v2 : Value} (h : Rd w B sz A n us) (hB : B ≤ w.heap.size) (ho : ∀ g, v2.ownBlock = some g → B ≤ g) (hg : w.grownBy w' v2.ownBlock) : Rd w' B sz A n us :=
  ⟨h.1, fun hn => by
    obtain ⟨b, off, e, hb, hc⟩ := h.2 hn
    refine ⟨b, off, e, hb, fun j u hu => ?_⟩
    have hk := hg.block b (Nat.lt_of_lt_of_le hb hB) (fun e => by have := ho b e.symm; omega)
    exact (World.cell?_of_block (a := ⟨b, off + j, none⟩) hk).trans (hc j u hu)⟩
end Go.Proofs.YtgphkfnobmponaaGreat

/- Plain facts: as many props are in the air before every beat as the throws' sum by the period; nothing of the program is named here. -/
namespace Go.Proofs.YtgphkfnobmponaaGreat
open Go.RowKit
set_option linter.unusedVariables false

/-- The throw that lands at a beat. -/
def vth (p : List Int) (c : Int) : Nat := (c - lf p c).toNat
theorem vth_int {p : List Int} (h : okP p = true) (c : Int) : ((vth p c : Nat) : Int) = c - lf p c := by have := lf_bd h c; unfold vth; omega
/-- The throw whose landing is the residue r. -/
theorem vth_idx {p : List Int} (h : okP p = true) {c : Int} {i : Nat} (hi : i < p.length) (e : Ld p i = c % (p.length : Int)) : (vth p c : Int) = p.getD i 0 := by
  obtain ⟨j, hj, hjl, hL⟩ := idx_some h c
  have : j = i := by
    apply Classical.byContradiction
    intro hne
    exact okP_ne h hjl hi hne (by rw [hL, e])
  subst this
  rw [vth_int h, lf_some hj]; omega
theorem lf_eq_of {p : List Int} (h : okP p = true) {b : Int} {c : Int} (hc : c = b + atB p b) : lf p c = b := by
  have hl := (thOk_iff (okP_th h)).2.1
  have h0 : 0 ≤ b % (p.length : Int) := Int.emod_nonneg _ (by omega)
  have h1 : b % (p.length : Int) < p.length := Int.emod_lt_of_pos _ (by omega)
  obtain ⟨i, hi⟩ := Int.eq_ofNat_of_zero_le h0
  have hil : i < p.length := by omega
  have ha : atB p b = p.getD i 0 := by rw [atB, hi, Int.toNat_natCast]
  have e : Ld p i = c % (p.length : Int) := by
    rw [Ld, hc, ha, ← hi, Int.emod_add_emod]
  have v := vth_idx h hil e
  have := vth_int h c
  omega
theorem atB_bd {p : List Int} (h : okP p = true) (b : Int) : 0 ≤ atB p b ∧ atB p b ≤ 15 := getD_bd (okP_th h) _
end Go.Proofs.YtgphkfnobmponaaGreat

/- 'append(rows, row)' as a step of a region that draws its order; contract of l04Single. -/
namespace Go.Proofs.YtgphkfnobmponaaGreat
open Go.RowKit
set_option linter.unusedVariables false

theorem cell0 {w : World} {g : Nat} {y : Value} (h : w.cell? ⟨g, 0, none⟩ = some y) : ∀ j u, (#[y] : Array Value).toList[j]? = some u → w.cell? ⟨g, j, none⟩ = some u := by
  intro j u hu
  rcases j with _ | j
  · simp at hu; subst hu; exact h
  · simp at hu
/-- 'append(rows, row)' as a step of a region that draws its order: the row has just been laid. -/
theorem step_push_row {P : Program} {ops : Array Oper} {o : Oper} {a : Act} {w : World} {K : Act → World → Prop} {Q : Exit → Act → World → Prop} {E : Prop}
    {base M : Nat} {v u : Value} {rows : List (List Int)} {row : List Int} (hG : Grid w base M v rows)
    (hu : w.ownsRow base 2 1 u row.length (ints row)) (hum : ∀ g, u.ownBlock = some g → M ≤ g) (hM : M ≤ w.heap.size) (g : Nat) (hcell : w.cell? ⟨g, 0, none⟩ = some u)
    {t : TypeId} (ht : P.underlying t = some (.slice 24)) (inf : (P.info? 24).map (fun i => (i.zero, i.size, i.bytes)) = some (some (.slice none 0 0), 1, 24))
    (hgd : o.guard = none) (s x : Operand) (ho : o.op = .call { callee := .builtin .append, args := #[s, x], argTypes := #[t, t] }) (hs : a.eval s = v) (hx : a.eval x = .slice (some ⟨g, 0, none⟩) 1 1)
    (hn : rows.length ≤ 1099511627775) (hbase : base ≤ w.heap.size) (hg : g < w.heap.size)
    (h : ∀ v' w', Grid w' base w.heap.size v' (rows ++ [row]) → Below base w w' → w.grownBy w' v.ownBlock → K (a.put o.dst v') w') :
    if Region.wanted o (yielded ops a.tmps) = true then Oper.wp P o a w K Q else E := by
  obtain ⟨vs, h1, h2, h3, h4⟩ := hG
  refine step_push_own h2 g #[u] (cell0 hcell) rfl ?_ ht inf rfl (by omega) hgd s x ho hs hx hn (by omega) hbase hg fun v' w' g1 g2 g3 => h v' w' ?_ g2 g3
  · intro y hy
    simp at hy
    subst hy
    obtain ⟨A, c, rfl⟩ := own_form hu
    rfl
  · exact Grid.snoc h1 h2 h3 h4 hu (fun g hg => ⟨hum g hg, (hu.lt g hg).2⟩) hM (by simpa using g1) g3
theorem own_heap {w w' : World} {base e sz n : Nat} {v : Value} {xs : List Value} (hh : w'.heap = w.heap) (h : w.ownsRow base e sz v n xs) : w'.ownsRow base e sz v n xs := by
  unfold World.ownsRow at *
  rw [hh]; exact h
theorem Grid.heap {w w' : World} {base M : Nat} {v : Value} {rows : List (List Int)} (hh : w'.heap = w.heap) (h : Grid w base M v rows) : Grid w' base M v rows := by
  obtain ⟨vs, h1, h2, h3, h4⟩ := h
  exact ⟨vs, h1, own_heap hh h2, fun j u row a b => ⟨own_heap hh (h3 j u row a b).1, (h3 j u row a b).2⟩, h4⟩
theorem cell_heap {w w' : World} (hh : w'.heap = w.heap) (p : Addr) : w'.cell? p = w.cell? p := by
  unfold World.cell?
  rw [hh]
/-- The same where the row was laid in w7, and then the one-cell block of the argument. -/
theorem step_push_row2 {P : Program} {ops : Array Oper} {o : Oper} {a : Act} {w8 : World} {K : Act → World → Prop} {Q : Exit → Act → World → Prop} {E : Prop}
    {base M : Nat} {v u : Value} {rows : List (List Int)} {row : List Int} (w7 : World) (e2 : TypeId) (h8 : w8.heap = (w7.alloc (.cells #[u] e2)).heap) (hG : Grid w7 base M v rows)
    (hu : w7.ownsRow base 2 1 u row.length (ints row)) (hum : ∀ g, u.ownBlock = some g → M ≤ g) (hM : M ≤ w7.heap.size) {g : Nat} (hg : g = w7.heap.size)
    {t : TypeId} (ht : P.underlying t = some (.slice 24)) (inf : (P.info? 24).map (fun i => (i.zero, i.size, i.bytes)) = some (some (.slice none 0 0), 1, 24))
    (hgd : o.guard = none) (s x : Operand) (ho : o.op = .call { callee := .builtin .append, args := #[s, x], argTypes := #[t, t] }) (hs : a.eval s = v) (hx : a.eval x = .slice (some ⟨g, 0, none⟩) 1 1)
    (hn : rows.length ≤ 1099511627775) (hbase : base ≤ w7.heap.size)
    (h : ∀ v' w', Grid w' base w'.heap.size v' (rows ++ [row]) → Below base w8 w' → K (a.put o.dst v') w') :
    if Region.wanted o (yielded ops a.tmps) = true then Oper.wp P o a w8 K Q else E := by
  subst hg
  have hbb : Below w7.heap.size w7 (w7.alloc (.cells #[u] e2)) := Below.alloc (Below.refl _ _) (Nat.le_refl _) _
  have hsz : w8.heap.size = w7.heap.size + 1 := by rw [h8]; simp
  refine step_push_row (Grid.heap h8 (hG.below hbb)) (own_heap h8 (hu.alloc _)) hum (by omega) w7.heap.size ?_ ht inf hgd s x ho hs hx hn (by omega) (by omega) fun v' w' g1 g2 g3 => h v' w' g1.size g2
  rw [cell_heap h8, World.cell?_alloc_at _ _ _ _ rfl]; rfl
/-- A pattern that comes back: its beats are the call's own. -/
def MsRes (B : Nat) (rows : List (List Int)) (e : Ending) (w : World) : Prop := ∃ (A : Option Addr) (c : Nat), e = .returned (.agg #[.slice A rows.length c]) ∧ Grid w B w.heap.size (.slice A rows.length c) rows
theorem MsRes.mk {B : Nat} {w : World} {A : Option Addr} {c n : Nat} {q : List (List Int)} (hn : q.length = n) (h : Grid w B w.heap.size (.slice A n c) q) : MsRes B q (.returned (.agg #[.slice A n c])) w := by subst hn; exact ⟨A, c, rfl, h⟩
def rSing (p : List Int) : List (List Int) := p.map fun x => [x]
theorem rSing_len (p : List Int) : (rSing p).length = p.length := by simp [rSing]
theorem rSing_step {p : List Int} {k : Nat} {x : Int} (h : p[k]? = some x) : rSing (p.take (k + 1)) = rSing (p.take k) ++ [[x]] := by
  unfold rSing
  rw [List.take_add_one, h]; simp
theorem Grid.setk {w : World} {base M : Nat} {v : Value} {rows : List (List Int)} (h : Grid w base M v rows) {p : Addr} (hp : p.block < base) (u : Value) : Grid (w.setCell p u) base M v rows := by
  have key : ∀ {e sz n : Nat} {x : Value} {xs : List Value}, w.ownsRow base e sz x n xs → (w.setCell p u).ownsRow base e sz x n xs := by
    intro e sz n x xs h
    refine ⟨h.1, ?_⟩
    rcases h.2 with hn | ⟨g, cap, cur, rfl, hg, hh, r⟩
    · exact .inl hn
    · exact .inr ⟨g, cap, cur, rfl, hg, by rw [Below.heap_setCell w p u g (by omega)]; exact hh, r⟩
  obtain ⟨vs, h1, h2, h3, h4⟩ := h
  exact ⟨vs, h1, key h2, fun j u row a b => ⟨key (h3 j u row a b).1, (h3 j u row a b).2⟩, h4⟩
theorem Grid.formN {w : World} {base M n : Nat} {v : Value} {rows : List (List Int)} (h : Grid w base M v rows) (hn : rows.length = n) : ∃ A c, v = .slice A n c := by subst hn; exact h.form
set_option maxRecDepth 100000 in
set_option maxHeartbeats 2000000 in
theorem l04Single_any (A : Option Addr) (n c : Nat) (p : List Int) (w : World) (hn : n ≤ 1099511627775) (hr : Rd w w.heap.size 1 A n (ints p)) :
    Calls Tryz.prog 124 #[.slice A n c] w fun e w' => MsRes w.heap.size (rSing p) e w' ∧ Below w.heap.size w w' := by
  have hlen := hr.len
  have HR := hid hr
  have HL := hid hlen
  have hXX : (w.alloc (Obj.cells #[.slice none 0 0] 27)).heap.size = w.heap.size + 1 := by simp
  have hX2 := hid ((Bx.new w 27 #[.slice none 0 0]).alloc (Obj.cells #[.slice none 0 0] 27))
  have hX4 := Bx.new (w.alloc (Obj.cells #[.slice none 0 0] 27)) 27 #[.slice none 0 0]
  rw [hXX] at hX4
  have hX4 := hid hX4
  clear hXX hr hlen
  go_enter Tryz.func124, Tryz.ntmps124
  go_wp2
  go_loopw [4] (fun i wr => Hid (∃ (k : Nat) (A2 : Option Addr) (c2 : Nat), k ≤ n ∧ i = .int .i64 k ∧ Bx wr w.heap.size 27 #[.slice none 0 0] ∧ Bx wr (w.heap.size + 1) 27 #[.slice A2 k c2] ∧ Grid wr (w.heap.size + 1 + 1) wr.heap.size (.slice A2 k c2) (rSing (p.take k)) ∧ Below w.heap.size w wr)) (fun i _ => n - (intOf i).toNat)
  case atStart => exact hid ⟨0, none, 0, Nat.zero_le _, rfl, hX2.out, hX4.out, Grid.nil _ _ _, (by repeat' (first | exact Below.refl _ _ | (with_reducible first | assumption | exact Nat.le_refl _ | refine Below.alloc ?_ ?_ _ | refine Below.setCell ?_ ?_ _ | refine Below.drew ?_ | refine below_drewN ?_ _) | refine Below.trans ?_ (Below.mono (by assumption) ?_) | exact Below.size (by assumption) | omega | go_size | (simp at *; omega)))⟩
  case round =>
    clear hX2 hX4
    obtain ⟨k, A2, c2, hk, rfl, hX2, hX4, hG, hb0⟩ := hrel.out
    clear hrel
    have hz0 := hb0.size
    have hz4 := hX4.lt
    have e2 := hX2.cell 0
    have f2 := hX2.frozen 0
    have e4 := hX4.cell 0
    have f4 := hX4.frozen 0
    replace e2 : wr.cell? ⟨w.heap.size, 0, none⟩ = some (.slice none 0 0) := e2
    replace e4 : wr.cell? ⟨w.heap.size + 1, 0, none⟩ = some (.slice A2 k c2) := e4
    by_cases hlt : k < n
    · obtain ⟨b, off, x, rfl, hb, hx, hd, hc0⟩ := HR.out.at_ hlt
      have hc : wr.cell? ⟨b, off + k, none⟩ = some (.int .i64 x) := (hb0.cell (p := ⟨b, off + k, none⟩) hb).trans hc0
      have HST := hid (rSing_step hx)
      have HTL : Hid ((rSing (p.take k)).length = k) := by show _ = _; rw [rSing_len, List.length_take, HL.out]; omega
      have HL5 : Hid ((rSing (p.take k) ++ [[x]]).length = k + 1) := by show _ = _; rw [List.length_append, HTL.out]; rfl
      have HX2 := hid hX2
      have HX4 := hid hX4
      have HG := hid hG
      have HB := hid hb0
      have hbw : b < wr.heap.size := by omega
      clear hx hd hc0 hX2 hX4 hG hb0
      obtain ⟨W, hW⟩ : ∃ W, ((wr.alloc (Obj.cells #[.int .i64 x] 2)).alloc (Obj.cells #[.slice (some ⟨wr.heap.size, 0, none⟩) 1 1] 24)) = W := ⟨_, rfl⟩
      have hbW : Below wr.heap.size wr W := by rw [← hW]; exact (by repeat' (first | exact Below.refl _ _ | (with_reducible first | assumption | exact Nat.le_refl _ | refine Below.alloc ?_ ?_ _ | refine Below.setCell ?_ ?_ _ | refine Below.drew ?_ | refine below_drewN ?_ _) | refine Below.trans ?_ (Below.mono (by assumption) ?_) | exact Below.size (by assumption) | omega | go_size | (simp at *; omega)))
      have hWs : W.heap.size = wr.heap.size + 1 + 1 := by rw [← hW]; simp
      have HGW : Hid (Grid W.drew (w.heap.size + 1 + 1) wr.heap.size (.slice A2 (rSing (p.take k)).length c2) (rSing (p.take k))) := by
        show Grid _ _ _ _ _
        rw [HTL.out]
        exact HG.out.below (Below.drew hbW)
      have HUW : Hid (W.drew.ownsRow (w.heap.size + 1 + 1) 2 1 (.slice (some ⟨wr.heap.size, 0, none⟩) 1 1) [x].length (ints [x])) := by
        show W.ownsRow _ _ _ _ _ _
        rw [← hW]
        exact World.ownsRow.alloc (World.ownsRow_lit wr #[.int .i64 x] 1 (by omega) (by simp [maxLen]) rfl) _
      have HCW : Hid (W.drew.cell? ⟨wr.heap.size + 1, 0, none⟩ = some (.slice (some ⟨wr.heap.size, 0, none⟩) 1 1)) := by
        show W.cell? _ = _
        rw [← hW, World.cell?_alloc_at _ _ _ _ (by simp)]; rfl
      rw [← hW] at HGW HUW HCW hbW hWs
      have eW2 : ((wr.alloc (Obj.cells #[.int .i64 x] 2)).alloc (Obj.cells #[.slice (some ⟨wr.heap.size, 0, none⟩) 1 1] 24)).cell? ⟨w.heap.size + 1, 0, none⟩ = some (.slice A2 k c2) := ((HX4.out.alloc _).alloc _).cell 0
      have eW1 : (wr.alloc (Obj.cells #[.int .i64 x] 2)).cell? ⟨w.heap.size + 1, 0, none⟩ = some (.slice A2 k c2) := (HX4.out.alloc _).cell 0
      have HBW := hid hbW
      clear hW hbW W
      go_wp2
      go_region_law (refine step_push_row HGW.out HUW.out (by intro g hg; injection hg with hg; subst hg; exact Nat.le_refl _) (by simp; omega) _ HCW.out Tryz.underlying25 inf_row rfl _ _ rfl (by rw [HTL.out]; rfl) rfl (by rw [HTL.out]; omega) (by simp; omega) (by simp) ?_; intro v5 w5 hG5 hb5 hg5; obtain ⟨A5, c5, rfl⟩ := Grid.formN hG5 HL5.out; have hb5w : Below (w.heap.size + 1 + 1) wr w5 := Below.trans (Below.drew (Below.mono HBW.out (by omega))) hb5; have X2 := hid (HX2.out.below hb5w (by omega)); have X4 := hid (HX4.out.below hb5w (by omega)); have e4 := X4.out.cell 0; have f4 := X4.out.frozen 0; have z5 := hb5w.size; replace e4 : w5.cell? ⟨w.heap.size + 1, 0, none⟩ = some (.slice A2 k c2) := e4)
      all_goals
        rw [← HST.out] at hG5
        have HB5 : Hid (Below w.heap.size w w5) := HB.out.trans (Below.mono hb5w (by omega))
        have HG5 := hid ((hG5.setk (p := ⟨w.heap.size + 1, 0, none⟩) (by show w.heap.size + 1 < _; omega) (.slice A5 (k + 1) c5)).size)
        have HX4' := hid (X4.out.set_ 0 (.slice A5 (k + 1) c5))
        have HX2' := hid (X2.out.far (p := ⟨w.heap.size + 1, 0, none⟩) (by simp) (.slice A5 (k + 1) c5))
        clear X2 X4 hG5 hb5 hg5 hb5w HG HX2 HX4 HGW HUW HCW HBW HST HTL HB
        go_wp2
        go_roundw
        case rel => exact hid ⟨k + 1, A5, c5, by omega, by go_num, HX2'.out, HX4'.out, HG5.out, (by repeat' (first | exact Below.refl _ _ | (with_reducible first | assumption | exact Nat.le_refl _ | refine Below.alloc ?_ ?_ _ | refine Below.setCell ?_ ?_ _ | refine Below.drew ?_ | refine below_drewN ?_ _) | refine Below.trans ?_ (Below.mono (by assumption) ?_) | exact Below.size (by assumption) | omega | go_size | (simp at *; omega)))⟩
        case measure => simp [intOf]; omega
    · have hkn : k = n := by omega
      have hE : rSing (p.take k) = rSing p := by rw [List.take_of_length_le (by rw [HL.out]; omega)]
      rw [hE] at hG
      have hLn : (rSing p).length = k := by rw [rSing_len, HL.out, hkn]
      have HG := hid (MsRes.mk hLn ((hG.setk (p := ⟨w.heap.size, 0, none⟩) (by show w.heap.size < _; omega) (.slice A2 k c2)).more (show w.heap.size ≤ w.heap.size + 1 + 1 by omega)).size)
      clear hE hkn hLn hX2 hX4 hG
      go_wp2
      refine bodyPost_ret (v := .agg #[.slice A2 k c2]) ?_ rfl ?_
      · simp (maxDischargeDepth := 8) [results, Tryz.results124, go_sem, *]
      exact ⟨HG.out, (by repeat' (first | exact Below.refl _ _ | (with_reducible first | assumption | exact Nat.le_refl _ | refine Below.alloc ?_ ?_ _ | refine Below.setCell ?_ ?_ _ | refine Below.drew ?_ | refine below_drewN ?_ _) | refine Below.trans ?_ (Below.mono (by assumption) ?_) | exact Below.size (by assumption) | omega | go_size | (simp at *; omega)))⟩
end Go.Proofs.YtgphkfnobmponaaGreat
