/- Several texts in one: Me, Ma, Fa, Fb, Fd, Fe. -/
import Derived.Test.YtlbhfjbbkkkldaaGl
import Derived.Test.YtlbhfjbbkkkldaaDw
import Derived.Test.YtlbhfjbbkkkldaaMs
import Derived.Test.YtlbhfjbbkkkldaaCo
import Derived.Test.YtlbhfjbbkkkldaaAp
import Derived.BigQuiet
import Derived.Test.YtlbhfjbbkkkldaaIx
import Derived.Test.YtlbhfjbbkkkldaaF
import Derived.Test.YtlbhfjbbkkkldaaA
import Derived.Test.YtlbhfjbbkkkldaaPu
import Derived.Deep.RegionLaw
import Derived.Maps.AppendAt
/- Drawn rows of rows of numbers: read only, their blocks between two bounds; made from a grid, from a grid with one row stored anew, cut to a prefix. -/
namespace Go.Proofs.Ytlbhfjbbkkkldaa
open Go.RowKit
set_option linter.unusedVariables false

/-- Cells that are read: their block lies from C on and below B. -/
def RdL (w : World) (C B : Nat) (A : Option Addr) (n : Nat) (us : List Value) : Prop :=
  us.length = n ∧ (0 < n → ∃ b off, A = some ⟨b, off, none⟩ ∧ C ≤ b ∧ b < B ∧ ∀ (j : Nat) (u : Value), us[j]? = some u → w.cell? ⟨b, off + j, none⟩ = some u)
section
variable {w w' : World} {C C' B B' n : Nat} {A : Option Addr} {us : List Value}
theorem RdL.rd (h : RdL w C B A n us) : Rd w B 1 A n us :=
  ⟨by rw [Nat.mul_one]; exact h.1, fun hn => by
    obtain ⟨b, off, e, _, hb, hc⟩ := h.2 hn
    exact ⟨b, off, e, hb, hc⟩⟩
theorem RdL.keep (h : RdL w C B A n us) (hk : ∀ p : Addr, C ≤ p.block → p.block < B → w'.cell? p = w.cell? p) : RdL w' C B A n us :=
  ⟨h.1, fun hn => by
    obtain ⟨b, off, e, h0, hb, hc⟩ := h.2 hn
    exact ⟨b, off, e, h0, hb, fun j u hu => (hk _ h0 hb).trans (hc j u hu)⟩⟩
theorem RdL.more (h : RdL w C B A n us) (hC : C' ≤ C) (hB : B ≤ B') : RdL w C' B' A n us :=
  ⟨h.1, fun hn => by
    obtain ⟨b, off, e, h0, hb, hc⟩ := h.2 hn
    exact ⟨b, off, e, Nat.le_trans hC h0, Nat.lt_of_lt_of_le hb hB, hc⟩⟩
theorem RdL.nil (w : World) (C B : Nat) : RdL w C B none 0 [] := ⟨rfl, fun h => absurd h (by omega)⟩
theorem RdL.of_own {base c : Nat} {e : TypeId} (h : w.ownsRow base e 1 (.slice A n c) n us) : RdL w base w.heap.size A n us := by
  refine ⟨by have := h.1; simpa using this, fun hn => ?_⟩
  obtain ⟨b, off, e1, hb, hc⟩ := (Rd.of_own h).2 hn
  refine ⟨b, off, e1, ?_, hb, hc⟩
  obtain ⟨g, c', e2, hge, _⟩ := own_block h hn
  injection e2 with e2 _ _
  rw [e1] at e2
  injection e2 with e2
  injection e2 with e2 _ _
  omega
end
/-- Rows of numbers that are read: all blocks lie from C on and below B. -/
def RdH (w : World) (C B : Nat) (A : Option Addr) (n : Nat) (rows : List (List Int)) : Prop :=
  rows.length = n ∧ (0 < n → ∃ b off, A = some ⟨b, off, none⟩ ∧ C ≤ b ∧ b < B ∧ ∀ (j : Nat) (row : List Int), rows[j]? = some row → ∃ Aj cj, w.cell? ⟨b, off + j, none⟩ = some (.slice Aj row.length cj) ∧ RdL w C B Aj row.length (ints row))
section
variable {w w' : World} {C C' B B' n : Nat} {A : Option Addr} {rows : List (List Int)}
theorem RdH.len (h : RdH w C B A n rows) : rows.length = n := h.1
theorem RdH.rd (h : RdH w C B A n rows) : RdG w B A n rows :=
  ⟨h.1, fun hn => by
    obtain ⟨b, off, e, _, hb, hc⟩ := h.2 hn
    exact ⟨b, off, e, hb, fun j row hj => by
      obtain ⟨Aj, cj, h1, h2⟩ := hc j row hj
      exact ⟨Aj, cj, h1, h2.rd⟩⟩⟩
theorem RdH.keep (h : RdH w C B A n rows) (hk : ∀ p : Addr, C ≤ p.block → p.block < B → w'.cell? p = w.cell? p) : RdH w' C B A n rows :=
  ⟨h.1, fun hn => by
    obtain ⟨b, off, e, h0, hb, hc⟩ := h.2 hn
    exact ⟨b, off, e, h0, hb, fun j row hj => by
      obtain ⟨Aj, cj, h1, h2⟩ := hc j row hj
      exact ⟨Aj, cj, (hk _ h0 hb).trans h1, h2.keep hk⟩⟩⟩
theorem RdH.more (h : RdH w C B A n rows) (hC : C' ≤ C) (hB : B ≤ B') : RdH w C' B' A n rows :=
  ⟨h.1, fun hn => by
    obtain ⟨b, off, e, h0, hb, hc⟩ := h.2 hn
    exact ⟨b, off, e, Nat.le_trans hC h0, Nat.lt_of_lt_of_le hb hB, fun j row hj => by
      obtain ⟨Aj, cj, h1, h2⟩ := hc j row hj
      exact ⟨Aj, cj, h1, h2.more hC hB⟩⟩⟩
theorem RdH.below {D : Nat} (h : RdH w C B A n rows) (hb : Below D w w') (hB : B ≤ D) : RdH w' C B A n rows := h.keep fun _ _ hp => hb.cell (Nat.lt_of_lt_of_le hp hB)
/-- A source below all rows is asked: the rows stay. -/
theorem RdH.grown {g : Nat} (h : RdH w C B A n rows) (hg : w.grownBy w' (some g)) (hC : g < C) (hB : B ≤ w.heap.size) : RdH w' C B A n rows :=
  h.keep fun p h0 hp => by
    have := hg.block p.block (by omega) (by intro e; injection e with e; omega)
    unfold World.cell?
    rw [this]
theorem RdH.setCell (h : RdH w C B A n rows) {p : Addr} (hp : p.block < C ∨ B ≤ p.block) (u : Value) : RdH (w.setCell p u) C B A n rows :=
  h.keep fun q h0 hq => by
    rcases hp with hp | hp
    · unfold World.cell?
      rw [Below.heap_setCell w p u q.block (by omega)]
    · exact (Below.setCell (Below.refl B w) hp u).cell hq
/-- A prefix. -/
theorem RdH.cut {k : Nat} (h : RdH w C B A n rows) (hk : k ≤ n) : RdH w C B A k (rows.take k) :=
  ⟨by rw [List.length_take, h.1]; omega, fun h0 => by
    obtain ⟨b, off, e, h1, hb, hc⟩ := h.2 (by omega)
    exact ⟨b, off, e, h1, hb, fun j row hj => hc j row (by
      rw [List.getElem?_take] at hj
      split at hj
      · exact hj
      · cases hj)⟩⟩
theorem RdH.tail {b off : Nat} (h : RdH w C B (some ⟨b, off, none⟩) n rows) (hn : 1 ≤ n) : RdH w C B (some ⟨b, off + 1, none⟩) (n - 1) (rows.drop 1) :=
  ⟨by rw [List.length_drop, h.1], fun h0 => by
    obtain ⟨b', off', e, h1, hb, hc⟩ := h.2 (by omega)
    injection e with e
    injection e with e1 e2
    subst e1 e2
    exact ⟨b, off + 1, rfl, h1, hb, fun j row hj => by
      rw [List.getElem?_drop] at hj
      have := hc (1 + j) row hj
      rw [show off + 1 + j = off + (1 + j) by omega]
      exact this⟩⟩
end
theorem Grid.rdH {w : World} {base M n c : Nat} {A : Option Addr} {rows : List (List Int)} (h : Grid w base M (.slice A n c) rows) : RdH w base w.heap.size A n rows := by
  obtain ⟨vs, h1, h2, h3, h4⟩ := h
  obtain ⟨A', c', e⟩ := own_form h2
  have hn : rows.length = n := by injection e with _ e _; exact e.symm
  rw [hn] at h2 h1
  refine ⟨hn, fun h0 => ?_⟩
  obtain ⟨b, off, eA, h9, hb, hc⟩ := (RdL.of_own h2).2 h0
  refine ⟨b, off, eA, h9, hb, fun j row hj => ?_⟩
  have hj2 : j < rows.length := (List.getElem?_eq_some_iff.1 hj).1
  have hu : vs[j]? = some (vs[j]'(by omega)) := List.getElem?_eq_getElem (by omega)
  have ho := (h3 j _ row hu hj).1
  obtain ⟨Aj, cj, ev⟩ := own_form ho
  have hcc := hc j _ hu
  rw [ev] at ho hcc
  exact ⟨Aj, cj, hcc, RdL.of_own ho⟩
/-- One row of a grid, and what is read where it is stored anew. -/
theorem Grid.put {w : World} {base M i n c : Nat} {A : Option Addr} {rows : List (List Int)} {row : List Int} (h : Grid w base M (.slice A n c) rows) (hi : rows[i]? = some row) :
    ∃ b Ai ci, A = some ⟨b, 0, none⟩ ∧ base ≤ b ∧ b < w.heap.size ∧ n = rows.length ∧ w.cell? ⟨b, i, none⟩ = some (.slice Ai row.length ci) ∧ w.ownsRow base 2 1 (.slice Ai row.length ci) row.length (ints row) ∧
      ∀ w' A' row' c', w.grownBy w' (Value.slice Ai row.length ci).ownBlock → w'.ownsRow base 2 1 (.slice A' row'.length c') row'.length (ints row') → w'.cell? ⟨b, i, none⟩ = some (.slice Ai row.length ci) ∧ w'.frozen? ⟨b, i, none⟩ = false ∧ RdH (w'.setCell ⟨b, i, none⟩ (.slice A' row'.length c')) base w'.heap.size A n (rows.set i row') := by
  obtain ⟨vs, h1, h2, h3, h4⟩ := h
  have hil : i < rows.length := (List.getElem?_eq_some_iff.1 hi).1
  have hu : vs[i]? = some (vs[i]'(by omega)) := List.getElem?_eq_getElem (by omega)
  generalize vs[i]'(by omega) = u at hu
  obtain ⟨ho, hlt⟩ := h3 i u row hu hi
  obtain ⟨Ai, ci, rfl⟩ := own_form ho
  obtain ⟨g, cap, e, hge, hgl⟩ := own_block h2 (by omega)
  injection e with eA en ec
  subst eA en ec
  refine ⟨g, Ai, ci, rfl, hge, hgl, rfl, (h2.cellAt i (by omega)).trans hu, ho, fun w' A' row' c' hgr ho' => ?_⟩
  have k2 := own_types h2 ho (by decide) hgr
  have kc := fun j hj => k2.cellAt j hj
  obtain ⟨k3, g3⟩ := k2.stored i (.slice A' row'.length c')
  refine ⟨(kc i (by omega)).trans hu, k2.frozenAt i, by rw [List.length_set], fun _ => ⟨g, 0, rfl, hge, (k2.lt g rfl).2, fun j r hj => ?_⟩⟩
  have hjl : j < rows.length := by have := (List.getElem?_eq_some_iff.1 hj).1; rwa [List.length_set] at this
  have ot : ∀ {v2 : Value} {n2 : Nat} {xs2 : List Value}, w'.ownsRow base 2 1 v2 n2 xs2 → (w'.setCell ⟨g, i, none⟩ (.slice A' row'.length c')).ownsRow base 2 1 v2 n2 xs2 := fun h => own_types h k2 (by decide) g3
  have hz : (w'.setCell ⟨g, i, none⟩ (.slice A' row'.length c')).heap.size = w'.heap.size := by simp
  by_cases hij : i = j
  · subst hij
    rw [List.getElem?_set_self hil] at hj
    obtain rfl : row' = r := Option.some.inj hj
    refine ⟨A', c', ?_, ?_⟩
    · rw [Nat.zero_add, k3.cellAt i (by omega), List.getElem?_set_self (by omega)]
    · have := RdL.of_own (ot ho')
      rw [hz] at this
      exact this
  · rw [List.getElem?_set_ne hij] at hj
    have hx : vs[j]? = some (vs[j]'(by omega)) := List.getElem?_eq_getElem (by omega)
    generalize vs[j]'(by omega) = x at hx
    have hox := (h3 j x r hx hj).1
    obtain ⟨Aj, cj, rfl⟩ := own_form hox
    have hkx : w'.ownsRow base 2 1 (.slice Aj r.length cj) r.length (ints r) := hox.kept hgr (by
      cases hb : (Value.slice Aj r.length cj).ownBlock with
      | none => exact .inl rfl
      | some q =>
        refine .inr fun e => ?_
        obtain ⟨hj2, ej⟩ := List.getElem?_eq_some_iff.1 hx
        obtain ⟨hi2, ei⟩ := List.getElem?_eq_some_iff.1 hu
        rcases Nat.lt_or_gt_of_ne hij with k | k
        · have := List.pairwise_iff_getElem.1 h4 i j hi2 hj2 k
          rw [ei, ej] at this
          have := this q q e.symm hb
          omega
        · have := List.pairwise_iff_getElem.1 h4 j i hj2 hi2 k
          rw [ei, ej] at this
          have := this q q hb e.symm
          omega)
    refine ⟨Aj, cj, ?_, ?_⟩
    · rw [Nat.zero_add, k3.cellAt j (by omega), List.getElem?_set_ne hij]; exact hx
    · have := RdL.of_own (ot hkx)
      rw [hz] at this
      exact this
/-- The same, and what is read where the row itself is written. -/
theorem Grid.put0 {w : World} {base M i n c : Nat} {A : Option Addr} {rows : List (List Int)} {row : List Int} (h : Grid w base M (.slice A n c) rows) (hi : rows[i]? = some row) :
    ∃ b Ai ci, A = some ⟨b, 0, none⟩ ∧ base ≤ b ∧ b < w.heap.size ∧ n = rows.length ∧ w.cell? ⟨b, i, none⟩ = some (.slice Ai row.length ci) ∧ w.ownsRow base 2 1 (.slice Ai row.length ci) row.length (ints row) ∧
      (∀ w' A' row' c', w.grownBy w' (Value.slice Ai row.length ci).ownBlock → w'.ownsRow base 2 1 (.slice A' row'.length c') row'.length (ints row') → w'.cell? ⟨b, i, none⟩ = some (.slice Ai row.length ci) ∧ w'.frozen? ⟨b, i, none⟩ = false ∧ RdH (w'.setCell ⟨b, i, none⟩ (.slice A' row'.length c')) base w'.heap.size A n (rows.set i row')) ∧
      (∀ w' row', row'.length = row.length → w.grownBy w' (Value.slice Ai row.length ci).ownBlock → w'.ownsRow base 2 1 (.slice Ai row.length ci) row.length (ints row') → RdH w' base w'.heap.size A n (rows.set i row')) := by
  obtain ⟨b, Ai, ci, e1, e2, e3, e4, e5, e6, e7⟩ := h.put hi
  obtain ⟨b', c', Ai', ci', f1, f2, f3, f4⟩ := h.mark hi
  subst e4
  rw [e1] at f1
  injection f1 with f1 _ _
  injection f1 with f1
  injection f1 with f1 _ _
  subst f1
  rw [e5] at f2
  injection f2 with f2
  injection f2 with f2 _ f5
  subst f2 f5
  refine ⟨b, Ai, ci, e1, e2, e3, rfl, e5, e6, e7, fun w' row' hl hg ho => ?_⟩
  exact (f4 w' row' hl hg ho).1.rdH
end Go.Proofs.Ytlbhfjbbkkkldaa

/- Contracts of l04Sort, l04Single. -/
namespace Go.Proofs.Ytlbhfjbbkkkldaa
open Go.RowKit
set_option linter.unusedVariables false

theorem own_drewA {w : World} {base e sz n : Nat} {v : Value} {xs : List Value} (h : w.ownsRow base e sz v n xs) : w.drew.ownsRow base e sz v n xs := h
theorem own_some {w : World} {base e sz n : Nat} {v : Value} {xs : List Value} (h : w.ownsRow base e sz v n xs) (hn : 0 < n) : ∃ g c, v = .slice (some ⟨g, 0, none⟩) n c ∧ n ≤ c := by
  obtain ⟨A, c, rfl, h1, h2⟩ := own_form2 h
  rcases h.2 with ⟨_, h3⟩ | ⟨g, cap, cur, h3, hge, hh, r⟩
  · omega
  · injection h3 with h4 h5 h6
    subst h4 h6
    exact ⟨g, c, rfl, h2⟩
theorem cell1 {w : World} {g : Nat} {y : Value} (h : w.cell? ⟨g, 0, none⟩ = some y) : ∀ j u, (#[y] : Array Value).toList[j]? = some u → w.cell? ⟨g, j, none⟩ = some u := by
  intro j u hu
  rcases j with _ | j
  · simp at hu; subst hu; exact h
  · simp at hu
set_option maxRecDepth 100000 in
set_option maxHeartbeats 4000000 in
theorem l04Sort_any (A : Option Addr) (n c : Nat) (l : List Int) (w : World) (hn : n ≤ 1000) (hr : Rd w w.heap.size 1 A n (ints l)) :
    Calls Try.prog 111 #[.slice A n c] w fun e w' => (∃ A' c', e = .returned (.slice A' (rSortZ l).length c') ∧ w'.ownsRow w.heap.size 2 1 (.slice A' (rSortZ l).length c') (rSortZ l).length (ints (rSortZ l))) ∧ Below w.heap.size w w' := by
  have hlen := hr.len
  have HR := hid hr
  have HL := hid hlen
  have hst0 : Hid (Fall ([] : List Int) ∧ ([] : List Int).Perm (nz (l.take 0))) := ⟨List.Pairwise.nil, by rw [List.take_zero]; exact List.Perm.nil⟩
  clear hr hlen
  go_enter Try.func111, Try.ntmps111
  go_wp2
  go_loopw [3, 4] (fun v i wr => Hid (∃ (k : Nat) (out : List Int) (g0 c0 : Nat), k ≤ n ∧ i = .int .i64 k ∧ v = .slice (some ⟨g0, 0, none⟩) out.length c0 ∧ out.length ≤ k ∧ out.length ≤ c0 ∧ Hid (Fall out ∧ out.Perm (nz (l.take k))) ∧ wr.ownsRow w.heap.size 2 1 (.slice (some ⟨g0, 0, none⟩) out.length c0) out.length (ints out) ∧ Below w.heap.size w wr)) (fun _ i _ => n - (intOf i).toNat)
  case atStart => exact hid ⟨0, [], w.heap.size, 0, Nat.zero_le _, rfl, rfl, by simp, by simp, hst0, World.ownsRow_lit _ _ 0 (Nat.le_refl _) (by simp [maxLen]) rfl, (by repeat' (first | exact Below.refl _ _ | (with_reducible assumption) | (with_reducible refine Below.alloc ?_ ?_ _) | (with_reducible refine Below.setCell ?_ ?_ _) | (with_reducible refine Below.drew ?_) | (with_reducible refine below_drewN ?_ _) | (refine Below.trans ?_ (Below.mono (by assumption) ?_)) | (with_reducible exact Nat.le_refl _) | (with_reducible assumption) | (exact Below.size (by assumption)) | omega | go_size | (simp at *; omega)))⟩
  case round =>
    obtain ⟨k, out, g0, c0, hk, rfl, rfl, hol, hoc, hF, ho, hb0⟩ := hrel.out
    clear hrel hst0
    by_cases hlt : k < n
    · obtain ⟨b, off, x, rfl, hb, hx, hd, hc0⟩ := HR.out.at_ hlt
      have HC := hid (fun (w1 : World) (b1 : Below w.heap.size w w1) => show w1.cell? ⟨b, off + k, none⟩ = some (.int .i64 x) from (b1.cell (p := ⟨b, off + k, none⟩) hb).trans hc0)
      have hc := HC.out wr hb0
      have hbw : b < wr.heap.size := by have := hb0.size; omega
      have hNZ := nz_step hx
      by_cases hx0 : x = 0
      · have HZ : Hid (Fall out ∧ out.Perm (nz (l.take (k + 1)))) := by
          show _ ∧ _
          rw [hNZ, if_pos hx0, List.append_nil]; exact hF.out
        subst hx0
        clear hx hd hc0 hNZ hF
        go_wp2
        go_roundw
        case rel => exact hid ⟨k + 1, out, g0, c0, by omega, by go_num, rfl, by omega, hoc, HZ, ho, hb0⟩
        case measure => simp [intOf]; omega
      · rw [if_neg hx0] at hNZ
        have hq : (x == 0) = false := by simpa using hx0
        have HNZ := hid hNZ
        obtain ⟨wo, rfl⟩ : ∃ wo : World, wo = wr := ⟨_, rfl⟩
        have HO := hid ho
        have HB0 := hid hb0
        have hst1 : Hid (∀ m, out.length ≤ m → m < out.length → out.getD m 0 < x) := fun m h1 h2 => by omega
        have hlg := (ho.lt g0 rfl).2
        clear hx hd hc0 hNZ hx0 ho hb0
        go_wp2
        clear hc
        go_loopw [5] (fun j wx => Hid (∃ jj : Nat, jj ≤ out.length ∧ j = .int .i64 jj ∧ Hid (∀ m, jj ≤ m → m < out.length → out.getD m 0 < x) ∧ Below wo.heap.size wo wx)) (fun j _ => (intOf j).toNat)
        case atStart => exact hid ⟨out.length, Nat.le_refl _, rfl, hst1, Below.refl _ _⟩
        case round =>
          clear hst1
          obtain ⟨jj, hjj, rfl, he, hbx⟩ := hrel.out
          clear hrel
          have hc := HC.out wr (bchain HB0.out hbx)
          have hbw2 : b < wr.heap.size := by have := hbx.size; omega
          have hgw2 : g0 < wr.heap.size := by have := hbx.size; omega
          have hki : (k : Int) < (n : Int) := by omega
          have hst3 : jj = 0 ∨ ∃ m, jj = m + 1 := by
            rcases Nat.eq_zero_or_pos jj with h | h
            · exact .inl h
            · exact .inr ⟨jj - 1, by omega⟩
          have HTK : Hid ((out.take jj).length = jj) := by show _ = _; rw [List.length_take]; omega
          have HDR : Hid ((out.drop jj).length = out.length - jj) := by show _ = _; rw [List.length_drop]
          have HOX := hid (fun (w1 : World) (b1 : Below wr.heap.size wr w1) => own_below HO.out (hbx.trans (b1.mono hbx.size)))
          have HR1 := hid (fun (w1 : World) (b1 : Below wr.heap.size wr w1) => show Rd w1 w1.heap.size 1 (some ⟨g0, 0, none⟩) jj (ints (out.take jj)) from by
            have := Rd.cut (Rd.of_own (own_below HO.out (hbx.trans (b1.mono hbx.size)))) (Nat.zero_le jj) hjj
            simpa using this)
          have HR2 := hid (fun (w1 : World) (b1 : Below wr.heap.size wr w1) => show Rd w1 w1.heap.size 1 (some ⟨g0, jj, none⟩) (out.length - jj) (ints (out.drop jj)) from by
            have := Rd.cut (Rd.of_own (own_below HO.out (hbx.trans (b1.mono hbx.size)))) hjj (Nat.le_refl _)
            simpa using this)
          have HC9 := hid (fun (w' : World) (b1 : Below wr.heap.size wr w') => (l00Own_any (some ⟨g0, 0, none⟩) jj c0 (out.take jj) w' (by omega) (fun h => by cases h) (HR1.out w' b1)).mono (fun e w'' h => show ∃ A c, e = .returned (.slice A jj c) ∧ w''.ownsRow wr.heap.size 2 1 (.slice A jj c) jj (ints (out.take jj)) ∧ Below w'.heap.size w' w'' by
            obtain ⟨v, h1, h2, h3⟩ := h
            obtain ⟨A, c, rfl⟩ := own_form h2
            exact ⟨A, c, h1, own_more h2 b1.size, h3⟩))
          have HBW := hid (bchain HB0.out hbx)
          have hzz := HBW.out.size
          have f1 : (jj : Int) ≤ (c0 : Int) := by omega
          have f2 : (0 : Int) ≤ (jj : Int) := by omega
          have f3 : (jj : Int) ≤ (out.length : Int) := by omega
          have hjbig : jj ≤ 1099511627775 := by omega
          rcases hst3 with h0 | ⟨m, hm⟩
          · have hlo : ∀ m, jj = m + 1 → x ≤ out.getD m 0 := fun m h => by omega
            have HN : Hid (Fall (out.take jj ++ x :: out.drop jj) ∧ (out.take jj ++ x :: out.drop jj).Perm (nz (l.take (k + 1)))) := by
              show _ ∧ _
              refine ⟨fall_ins hF.out.1 hjj he.out hlo, ?_⟩
              rw [HNZ.out]
              exact perm_ins.trans (hF.out.2.append_right _)
            have hdec : decide ((0 : Int) < (jj : Int)) = false := decide_eq_false (by omega)
            have hdec2 : decide (0 < jj) = false := decide_eq_false (by omega)
            clear hlo he HNZ hF h0
            go_wp2
            go_quiet (fail)
            go_wp2
            go_region_law (first
              | (refine step_push_own (base := wr.heap.size) (sz := 1) (e := 2) (n := jj) (xs := ints (out.take jj)) (by first | exact ho5 | exact ho5.alloc _ | exact own_drewA ho5 | exact (own_drewA ho5).alloc _ | exact own_drewA (ho5.alloc _)) _ #[.int .i64 x] (cell1 (by first | (simp; done) | (rw [World.cell?_drewN]; rw [World.cell?_alloc_at _ _ _ _ (by first | rfl | simp)]; first | done | rfl) | (show (World.alloc _ _).cell? _ = _; rw [World.cell?_alloc_at _ _ _ _ (by first | rfl | simp)]; first | done | rfl) | (refine (hk5 (by first | (simp; done) | (simp [World.drewN]; done))).trans ?_; show (World.alloc _ _).cell? _ = _; rw [World.cell?_alloc_at _ _ _ _ (by first | rfl | simp)]; first | done | rfl))) rfl (by intro u hu; simp at hu; subst hu; rfl) Try.underlying43 inf_int rfl (by omega) rfl _ _ rfl rfl rfl hjbig (by omega) (by first | exact hz5 | exact Nat.le_trans hz5 (by simp)) (by first | (simp; done) | (have hgm := hy5; simp [World.drewN] at hgm ⊢; omega)) ?_; intro v6 w6 ho6 hb6 hg6; have hb6w : Below wr.heap.size wr w6 := Below.trans (by repeat' (first | (with_reducible exact hB5) | (with_reducible refine Below.drew ?_) | (with_reducible refine below_drewN ?_ _) | (with_reducible refine Below.alloc ?_ ?_ _) | exact hz5)) hb6; clear hb6 hg6 hk5 hb5 ho5 hB5 hc5 hz5 hy5 hl5)
              | (go_simp; go_wp2_with (go_at_call 110; refine (HC9.out _ ?_).mono ?_; (exact (by repeat' (first | exact Below.refl _ _ | (with_reducible assumption) | (with_reducible refine Below.alloc ?_ ?_ _) | (with_reducible refine Below.setCell ?_ ?_ _) | (with_reducible refine Below.drew ?_) | (with_reducible refine below_drewN ?_ _) | (refine Below.trans ?_ (Below.mono (by assumption) ?_)) | (with_reducible exact Nat.le_refl _) | (with_reducible assumption) | (exact Below.size (by assumption)) | omega | go_size | (simp at *; omega)))); rintro e w5 ⟨A5, c5, rfl, ho5, hb5⟩; have hk5 := (fun h => hb5.cell (p := ⟨wr.heap.size, 0, none⟩) h); have hB5 := bchain (show Below wr.heap.size wr _ by repeat' (first | (with_reducible exact Below.refl _ _) | (with_reducible refine Below.drew ?_) | (with_reducible refine below_drewN ?_ _) | (with_reducible refine Below.alloc ?_ ?_ _) | exact Nat.le_refl _)) hb5; have hc5 := HC.out w5 (bchain HBW.out hB5); have hz5 := hB5.size; have hy5 := hb5.size; have hl5 : b < w5.heap.size := World.block_lt_of_cell? w5 (a := ⟨b, off + k, none⟩) hc5)))
            all_goals
              have hs6 := hb6w.size
              have ho6' : w6.ownsRow wr.heap.size 2 1 v6 (out.take jj ++ [x]).length (ints (out.take jj ++ [x])) := by
                rw [List.length_append, HTK.out, ← ints_snoc]; exact ho6
              have HR6 := HR2.out w6 hb6w
              clear ho6
              rcases Nat.lt_or_ge jj c0 with h9 | h9
              · have f9 : (jj : Int) < (c0 : Int) := by omega
                go_wp2_with (at_builtin; refine app_ints (base := wr.heap.size) (xs := out.take jj ++ [x]) ho6' _ _ _ (out.drop jj) HR6 (fun h => by cases h) Try.underlying43 inf_int rfl rfl _ _ rfl rfl rfl (by rw [List.length_append, HTK.out]; simp; omega) hs6 ?_; intro v7 w7 ho7 hb7 hg7)
                have hb7w := hb6w.trans hb7
                have HLN : Hid ((out.take jj ++ x :: out.drop jj).length = out.length + 1) := by show _ = _; rw [List.length_append, List.length_cons, HTK.out, HDR.out]; omega
                have ho8 := own_more ho7 hzz
                rw [show out.take jj ++ [x] ++ out.drop jj = out.take jj ++ x :: out.drop jj from by simp] at ho8
                obtain ⟨g7, c7, hv7, hoc7⟩ := own_some ho8 (by rw [HLN.out]; omega)
                subst hv7
                have hb8 := bchain HBW.out hb7w
                have HO8 := hid ho8
                clear ho7 ho8 hb7 hg7 hb7w hb6w ho6' HR6
                go_wp2
                go_roundw
                case rel => exact hid ⟨k + 1, out.take jj ++ x :: out.drop jj, g7, c7, by omega, by go_num, by first | rfl | (rw [HLN.out]), by rw [HLN.out]; omega, hoc7, HN, HO8.out, hb8⟩
                case measure => simp [intOf]; omega
              · have h10 : out.drop jj = [] := List.drop_eq_nil_of_le (by omega)
                have H10 := hid h10
                have f9 : ¬ ((jj : Int) < (c0 : Int)) := by omega
                have f12 : ¬ (jj < c0) := by omega
                clear h10
                go_wp2_with (at_builtin; refine app_ints (base := wr.heap.size) (B := w6.heap.size) (xs := out.take jj ++ [x]) ho6' _ _ _ [] (show Rd _ w6.heap.size 1 _ _ (ints []) from ⟨by simp [ints]; omega, fun h => absurd h (by omega)⟩) (fun h => by cases h) Try.underlying43 inf_int rfl rfl _ _ rfl rfl rfl (by rw [List.length_append, HTK.out]; simp; omega) hs6 ?_; intro v7 w7 ho7 hb7 hg7)
                have hb7w := hb6w.trans hb7
                have HLN : Hid ((out.take jj ++ x :: out.drop jj).length = out.length + 1) := by show _ = _; rw [List.length_append, List.length_cons, HTK.out, HDR.out]; omega
                have ho8 := own_more ho7 hzz
                rw [show out.take jj ++ [x] ++ [] = out.take jj ++ x :: out.drop jj from by rw [H10.out]; simp] at ho8
                obtain ⟨g7, c7, hv7, hoc7⟩ := own_some ho8 (by rw [HLN.out]; omega)
                subst hv7
                have hb8 := bchain HBW.out hb7w
                have HO8 := hid ho8
                clear ho7 ho8 hb7 hg7 hb7w hb6w ho6' HR6
                go_wp2
                go_roundw
                case rel => exact hid ⟨k + 1, out.take jj ++ x :: out.drop jj, g7, c7, by omega, by go_num, by first | rfl | (rw [HLN.out]), by rw [HLN.out]; omega, hoc7, HN, HO8.out, hb8⟩
                case measure => simp [intOf]; omega
          · obtain ⟨g', off', y, hge', hgb', hym, hyd, hyc⟩ := (Rd.of_own (HOX.out wr (Below.refl _ _))).at_ (show m < out.length by omega)
            injection hge' with hge'
            injection hge' with e1 e2
            subst e1 e2
            have hyg : out.getD m 0 = y := by rw [List.getD_eq_getElem?_getD, hym]; rfl
            have hw1 : IntKind.i64.wrap ((jj : Int) - 1) = (m : Int) := by rw [IntKind.wrap_i64]; omega
            have hm1 : (m : Int) < (out.length : Int) := by omega
            have hm2 : m < out.length := by omega
            have hdec : decide ((0 : Int) < (jj : Int)) = true := decide_eq_true (by omega)
            have hdec2 : decide (0 < jj) = true := decide_eq_true (by omega)
            have hmj : m ≤ out.length := by omega
            have HM := hid hm
            clear hm hyd hym
            by_cases hyx : y < x
            · have hst5 : Hid (∀ m', m ≤ m' → m' < out.length → out.getD m' 0 < x) := fun m' h1 h2 => by
                rcases Nat.lt_or_ge m' jj with h3 | h3
                · have : m' = m := by have := HM.out; omega
                  rw [this, hyg]; exact hyx
                · exact he.out m' h3 h2
              have hdec3 : decide (y < x) = true := decide_eq_true hyx
              have hmeas : m < jj := by have := HM.out; omega
              have HB := hid hbx
              clear he HNZ hF hyg hyx hbx
              have hyc2 : wr.cell? ⟨g0, m, none⟩ = some (.int .i64 y) := by simpa using hyc
              have hm0 : (0 : Int) ≤ (m : Int) := by omega
              go_wp2
              go_big_quiet (fail)
              go_wp2
              go_roundw
              case rel => exact hid ⟨m, hmj, by first | rfl | go_num, hst5, below_drewN HB.out _⟩
              case measure => simp [intOf]; omega
            · have hlo : ∀ m', jj = m' + 1 → x ≤ out.getD m' 0 := fun m' h => by
                have h2 : m' = m := by have := HM.out; omega
                rw [h2, hyg]; omega
              have HN : Hid (Fall (out.take jj ++ x :: out.drop jj) ∧ (out.take jj ++ x :: out.drop jj).Perm (nz (l.take (k + 1)))) := by
                show _ ∧ _
                refine ⟨fall_ins hF.out.1 hjj he.out hlo, ?_⟩
                rw [HNZ.out]
                exact perm_ins.trans (hF.out.2.append_right _)
              have hdec3 : decide (y < x) = false := decide_eq_false hyx
              have hyc2 : wr.cell? ⟨g0, m, none⟩ = some (.int .i64 y) := by simpa using hyc
              have hm0 : (0 : Int) ≤ (m : Int) := by omega
              clear hlo he HNZ hF hyg hyx
              go_wp2
              go_big_quiet (fail)
              go_wp2
              go_region_law (first
                | (refine step_push_own (base := wr.heap.size) (sz := 1) (e := 2) (n := jj) (xs := ints (out.take jj)) (by first | exact ho5 | exact ho5.alloc _ | exact own_drewA ho5 | exact (own_drewA ho5).alloc _ | exact own_drewA (ho5.alloc _)) _ #[.int .i64 x] (cell1 (by first | (simp; done) | (rw [World.cell?_drewN]; rw [World.cell?_alloc_at _ _ _ _ (by first | rfl | simp)]; first | done | rfl) | (show (World.alloc _ _).cell? _ = _; rw [World.cell?_alloc_at _ _ _ _ (by first | rfl | simp)]; first | done | rfl) | (refine (hk5 (by first | (simp; done) | (simp [World.drewN]; done))).trans ?_; show (World.alloc _ _).cell? _ = _; rw [World.cell?_alloc_at _ _ _ _ (by first | rfl | simp)]; first | done | rfl))) rfl (by intro u hu; simp at hu; subst hu; rfl) Try.underlying43 inf_int rfl (by omega) rfl _ _ rfl rfl rfl hjbig (by omega) (by first | exact hz5 | exact Nat.le_trans hz5 (by simp)) (by first | (simp; done) | (have hgm := hy5; simp [World.drewN] at hgm ⊢; omega)) ?_; intro v6 w6 ho6 hb6 hg6; have hb6w : Below wr.heap.size wr w6 := Below.trans (by repeat' (first | (with_reducible exact hB5) | (with_reducible refine Below.drew ?_) | (with_reducible refine below_drewN ?_ _) | (with_reducible refine Below.alloc ?_ ?_ _) | exact hz5)) hb6; clear hb6 hg6 hk5 hb5 ho5 hB5 hc5 hz5 hy5 hl5)
                | (go_simp; go_wp2_with (go_at_call 110; refine (HC9.out _ ?_).mono ?_; (exact (by repeat' (first | exact Below.refl _ _ | (with_reducible assumption) | (with_reducible refine Below.alloc ?_ ?_ _) | (with_reducible refine Below.setCell ?_ ?_ _) | (with_reducible refine Below.drew ?_) | (with_reducible refine below_drewN ?_ _) | (refine Below.trans ?_ (Below.mono (by assumption) ?_)) | (with_reducible exact Nat.le_refl _) | (with_reducible assumption) | (exact Below.size (by assumption)) | omega | go_size | (simp at *; omega)))); rintro e w5 ⟨A5, c5, rfl, ho5, hb5⟩; have hk5 := (fun h => hb5.cell (p := ⟨wr.heap.size, 0, none⟩) h); have hB5 := bchain (show Below wr.heap.size wr _ by repeat' (first | (with_reducible exact Below.refl _ _) | (with_reducible refine Below.drew ?_) | (with_reducible refine below_drewN ?_ _) | (with_reducible refine Below.alloc ?_ ?_ _) | exact Nat.le_refl _)) hb5; have hc5 := HC.out w5 (bchain HBW.out hB5); have hz5 := hB5.size; have hy5 := hb5.size; have hl5 : b < w5.heap.size := World.block_lt_of_cell? w5 (a := ⟨b, off + k, none⟩) hc5)))
              all_goals
                have hs6 := hb6w.size
                have ho6' : w6.ownsRow wr.heap.size 2 1 v6 (out.take jj ++ [x]).length (ints (out.take jj ++ [x])) := by
                  rw [List.length_append, HTK.out, ← ints_snoc]; exact ho6
                have HR6 := HR2.out w6 hb6w
                clear ho6
                rcases Nat.lt_or_ge jj c0 with h9 | h9
                · have f9 : (jj : Int) < (c0 : Int) := by omega
                  go_wp2_with (at_builtin; refine app_ints (base := wr.heap.size) (xs := out.take jj ++ [x]) ho6' _ _ _ (out.drop jj) HR6 (fun h => by cases h) Try.underlying43 inf_int rfl rfl _ _ rfl rfl rfl (by rw [List.length_append, HTK.out]; simp; omega) hs6 ?_; intro v7 w7 ho7 hb7 hg7)
                  have hb7w := hb6w.trans hb7
                  have HLN : Hid ((out.take jj ++ x :: out.drop jj).length = out.length + 1) := by show _ = _; rw [List.length_append, List.length_cons, HTK.out, HDR.out]; omega
                  have ho8 := own_more ho7 hzz
                  rw [show out.take jj ++ [x] ++ out.drop jj = out.take jj ++ x :: out.drop jj from by simp] at ho8
                  obtain ⟨g7, c7, hv7, hoc7⟩ := own_some ho8 (by rw [HLN.out]; omega)
                  subst hv7
                  have hb8 := bchain HBW.out hb7w
                  have HO8 := hid ho8
                  clear ho7 ho8 hb7 hg7 hb7w hb6w ho6' HR6
                  go_wp2
                  go_roundw
                  case rel => exact hid ⟨k + 1, out.take jj ++ x :: out.drop jj, g7, c7, by omega, by go_num, by first | rfl | (rw [HLN.out]), by rw [HLN.out]; omega, hoc7, HN, HO8.out, hb8⟩
                  case measure => simp [intOf]; omega
                · have h10 : out.drop jj = [] := List.drop_eq_nil_of_le (by omega)
                  have H10 := hid h10
                  have f9 : ¬ ((jj : Int) < (c0 : Int)) := by omega
                  have f12 : ¬ (jj < c0) := by omega
                  clear h10
                  go_wp2_with (at_builtin; refine app_ints (base := wr.heap.size) (B := w6.heap.size) (xs := out.take jj ++ [x]) ho6' _ _ _ [] (show Rd _ w6.heap.size 1 _ _ (ints []) from ⟨by simp [ints]; omega, fun h => absurd h (by omega)⟩) (fun h => by cases h) Try.underlying43 inf_int rfl rfl _ _ rfl rfl rfl (by rw [List.length_append, HTK.out]; simp; omega) hs6 ?_; intro v7 w7 ho7 hb7 hg7)
                  have hb7w := hb6w.trans hb7
                  have HLN : Hid ((out.take jj ++ x :: out.drop jj).length = out.length + 1) := by show _ = _; rw [List.length_append, List.length_cons, HTK.out, HDR.out]; omega
                  have ho8 := own_more ho7 hzz
                  rw [show out.take jj ++ [x] ++ [] = out.take jj ++ x :: out.drop jj from by rw [H10.out]; simp] at ho8
                  obtain ⟨g7, c7, hv7, hoc7⟩ := own_some ho8 (by rw [HLN.out]; omega)
                  subst hv7
                  have hb8 := bchain HBW.out hb7w
                  have HO8 := hid ho8
                  clear ho7 ho8 hb7 hg7 hb7w hb6w ho6' HR6
                  go_wp2
                  go_roundw
                  case rel => exact hid ⟨k + 1, out.take jj ++ x :: out.drop jj, g7, c7, by omega, by go_num, by first | rfl | (rw [HLN.out]), by rw [HLN.out]; omega, hoc7, HN, HO8.out, hb8⟩
                  case measure => simp [intOf]; omega
    · have hkn : k = n := by omega
      have hE : out = rSrt l := by
        have h := hF.out
        rw [List.take_of_length_le (by rw [HL.out]; omega)] at h
        exact rSrt_uniq h.1 h.2
      by_cases h0 : out = []
      · have HZ : Hid (rSortZ l = [0]) := by show _ = _; rw [rSortZ, ← hE, if_pos h0]
        subst h0
        have HZZ := hid HZ.out
        clear hF hE hkn ho HZ
        go_wp2
        go_ret
        rw [show rSortZ l = [0] from HZZ.out]
        exact ⟨⟨_, _, rfl, World.ownsRow_lit _ _ 1 (by first | exact hb0.size | (simp; have := hb0.size; omega)) (by simp [maxLen]) rfl⟩, (by repeat' (first | exact Below.refl _ _ | (with_reducible assumption) | (with_reducible refine Below.alloc ?_ ?_ _) | (with_reducible refine Below.setCell ?_ ?_ _) | (with_reducible refine Below.drew ?_) | (with_reducible refine below_drewN ?_ _) | (refine Below.trans ?_ (Below.mono (by assumption) ?_)) | (with_reducible exact Nat.le_refl _) | (with_reducible assumption) | (exact Below.size (by assumption)) | omega | go_size | (simp at *; omega)))⟩
      · have HZ : Hid (rSortZ l = out) := by show _ = _; rw [rSortZ, ← hE, if_neg h0]
        have hq : ((out.length : Int) == 0) = false := by
          have := List.length_pos_iff.2 h0
          simp; exact h0
        clear hF hE hkn h0
        go_wp2
        go_ret
        rw [HZ.out]
        exact ⟨⟨_, _, rfl, ho⟩, hb0⟩
end Go.Proofs.Ytlbhfjbbkkkldaa

/- Plain: the graph of states is connected, and what a search in breadth leaves. -/
namespace Go.Proofs.Ytlbhfjbbkkkldaa
open Go.RowKit
set_option linter.unusedVariables false

/-- How many of the lowest bits are set. -/
def pcN : Nat → Nat → Nat
  | 0, _ => 0
  | f + 1, m => m % 2 + pcN f (m / 2)
theorem pcN_zero : ∀ f, pcN f 0 = 0
  | 0 => rfl
  | f + 1 => by rw [pcN, pcN_zero f]
theorem pcN_lift : ∀ (f m : Nat), m < 2 ^ f → pcN (f + 1) m = pcN f m
  | 0, m, h => by
    have : m = 0 := by simpa using h
    subst this; rfl
  | f + 1, m, h => by
    show m % 2 + pcN (f + 1) (m / 2) = m % 2 + pcN f (m / 2)
    rw [pcN_lift f (m / 2) (by rw [Nat.pow_succ] at h; omega)]
theorem pcN_even {h c : Nat} (hc : 2 * c < 2 ^ h) : pcN h (2 * c) = pcN h c := by
  cases h with
  | zero => rfl
  | succ f =>
    rw [Nat.pow_succ] at hc
    rw [pcN_lift f c (by omega), pcN]
    rw [show 2 * c % 2 = 0 by omega, show 2 * c / 2 = c by omega, Nat.zero_add]
theorem pcN_odd {h c : Nat} (hc : 2 * c + 1 < 2 ^ h) : pcN h (2 * c + 1) = pcN h c + 1 := by
  cases h with
  | zero => simp at hc
  | succ f =>
    rw [Nat.pow_succ] at hc
    rw [pcN_lift f c (by omega), pcN]
    rw [show (2 * c + 1) % 2 = 1 by omega, show (2 * c + 1) / 2 = c by omega, Nat.add_comm]
theorem pcN_top : ∀ (h v j : Nat), v < 2 ^ j → j < h → pcN h (v + 2 ^ j) = pcN h v + 1
  | 0, _, _, _, hj => absurd hj (Nat.not_lt_zero _)
  | f + 1, v, 0, hv, _ => by
    have : v = 0 := by simpa using hv
    subst this
    show 1 % 2 + pcN f (1 / 2) = 0 % 2 + pcN f (0 / 2) + 1
    rw [show 1 / 2 = 0 from rfl, pcN_zero]
  | f + 1, v, j + 1, hv, hj => by
    have hp : 2 ^ (j + 1) = 2 * 2 ^ j := by rw [Nat.pow_succ]; omega
    rw [hp] at hv
    rw [pcN, pcN, hp, show (v + 2 * 2 ^ j) % 2 = v % 2 by omega, show (v + 2 * 2 ^ j) / 2 = v / 2 + 2 ^ j by omega,
      pcN_top f (v / 2) j (by omega) (by omega)]
    omega
theorem pcN_set : ∀ (h c j : Nat), c / 2 ^ j % 2 = 0 → j < h → pcN h (c + 2 ^ j) = pcN h c + 1
  | 0, _, _, _, hj => absurd hj (Nat.not_lt_zero _)
  | f + 1, c, 0, hc, _ => by
    rw [Nat.pow_zero, Nat.div_one] at hc
    rw [Nat.pow_zero]
    show (c + 1) % 2 + pcN f ((c + 1) / 2) = c % 2 + pcN f (c / 2) + 1
    rw [show (c + 1) / 2 = c / 2 by omega]; omega
  | f + 1, c, j + 1, hc, hj => by
    have hp : 2 ^ (j + 1) = 2 * 2 ^ j := by rw [Nat.pow_succ]; omega
    rw [hp, ← Nat.div_div_eq_div_mul] at hc
    show (c + 2 ^ (j + 1)) % 2 + pcN f ((c + 2 ^ (j + 1)) / 2) = c % 2 + pcN f (c / 2) + 1
    rw [hp, show (c + 2 * 2 ^ j) % 2 = c % 2 by omega, show (c + 2 * 2 ^ j) / 2 = c / 2 + 2 ^ j by omega, pcN_set f (c / 2) j hc (by omega)]
    omega
theorem or_clear {c j : Nat} (h : c / 2 ^ j % 2 = 0) : c ||| 2 ^ j = c + 2 ^ j := by
  have hp : 0 < 2 ^ j := Nat.two_pow_pos j
  have e : c = 2 ^ (j + 1) * (c / 2 ^ j / 2) + c % 2 ^ j := by
    have h1 := Nat.div_add_mod c (2 ^ j)
    have h2 := Nat.div_add_mod (c / 2 ^ j) 2
    rw [h, Nat.add_zero] at h2
    rw [Nat.pow_succ, Nat.mul_assoc, h2]; exact h1.symm
  have hl : c % 2 ^ j < 2 ^ j := Nat.mod_lt _ hp
  generalize c / 2 ^ j / 2 = u at e
  generalize c % 2 ^ j = l at e hl
  subst e
  have h2 : 2 ^ (j + 1) = 2 * 2 ^ j := by rw [Nat.pow_succ]; omega
  have e1 : l ||| 2 ^ j = 2 ^ j + l := by
    have := Nat.two_pow_add_eq_or_of_lt hl 1
    rw [Nat.mul_one] at this
    rw [this, Nat.or_comm]
  rw [Nat.two_pow_add_eq_or_of_lt (show l < 2 ^ (j + 1) by omega) u, Nat.or_assoc, e1, ← Nat.two_pow_add_eq_or_of_lt (show 2 ^ j + l < 2 ^ (j + 1) by omega) u]
  rw [← Nat.two_pow_add_eq_or_of_lt (show l < 2 ^ (j + 1) by omega) u]; omega
theorem step_lt {c j h : Nat} (hc : 2 * c + 1 < 2 ^ h) (hj : j < h) : c + 2 ^ j < 2 ^ h := by
  cases h with
  | zero => omega
  | succ f =>
    have : 2 ^ j ≤ 2 ^ f := Nat.pow_le_pow_right (by omega) (by omega)
    rw [Nat.pow_succ] at *; omega
theorem pcN_low {h u : Nat} : ∀ i, u * 2 ^ i + 2 ^ i - 1 < 2 ^ h → pcN h (u * 2 ^ i + 2 ^ i - 1) = pcN h u + i
  | 0, _ => by rw [Nat.pow_zero, Nat.mul_one]; rfl
  | i + 1, hb => by
    have h1 : 0 < 2 ^ i := Nat.two_pow_pos i
    have e : u * 2 ^ (i + 1) + 2 ^ (i + 1) - 1 = 2 * (u * 2 ^ i + 2 ^ i - 1) + 1 := by
      rw [Nat.pow_succ, ← Nat.mul_assoc]; omega
    rw [e] at hb ⊢
    rw [pcN_odd hb, pcN_low i (by omega)]; omega
theorem ones_form (a : Nat) : ∃ u m, a = u * 2 ^ (m + 1) + 2 ^ m - 1 := by
  induction a using Nat.strongRecOn with
  | _ a ih =>
    by_cases h : a % 2 = 0
    · exact ⟨a / 2, 0, by simp; omega⟩
    · obtain ⟨u, m, e⟩ := ih (a / 2) (by omega)
      refine ⟨u, m + 1, ?_⟩
      have h1 : 0 < 2 ^ m := Nat.two_pow_pos m
      have h2 : 2 ^ (m + 1) = 2 * 2 ^ m := by rw [Nat.pow_succ]; omega
      have h3 : u * 2 ^ (m + 1 + 1) = 2 * (u * 2 ^ (m + 1)) := by rw [Nat.pow_succ, ← Nat.mul_assoc]; omega
      rw [h3]; omega
section
variable {h : Nat} {R : Nat → Prop}
theorem conn_down (H1 : ∀ c j, 2 * c + 1 < 2 ^ h → j < h → c / 2 ^ j % 2 = 0 → R (c + 2 ^ j) → R (2 * c + 1)) : ∀ (u i : Nat), u * 2 ^ i + 2 ^ i - 1 < 2 ^ h → R (u * 2 ^ i + 2 ^ i - 1) → R (2 ^ (pcN h u + i) - 1) := by
  intro u
  induction u using Nat.strongRecOn with
  | _ u ih =>
    intro i hb hr
    by_cases hu : u = 0
    · subst hu
      rw [Nat.zero_mul, Nat.zero_add] at hr
      rw [pcN_zero, Nat.zero_add]; exact hr
    · obtain ⟨j, hj⟩ : ∃ j, Nat.log2 u = j := ⟨_, rfl⟩
      have l1 : 2 ^ j ≤ u := by rw [← hj]; exact Nat.log2_self_le hu
      have l2 : u < 2 ^ (j + 1) := by rw [← hj]; exact Nat.lt_log2_self
      rw [Nat.pow_succ] at l2
      obtain ⟨v, rfl⟩ : ∃ v, u = v + 2 ^ j := ⟨u - 2 ^ j, by omega⟩
      have hv : v < 2 ^ j := by omega
      have hpi : 0 < 2 ^ i := Nat.two_pow_pos i
      have hpj : 0 < 2 ^ j := Nat.two_pow_pos j
      have hij : 2 ^ (j + i) = 2 ^ j * 2 ^ i := Nat.pow_add _ _ _
      have hvi : (v + 1) * 2 ^ i ≤ 2 ^ j * 2 ^ i := Nat.mul_le_mul_right _ hv
      rw [Nat.add_mul, Nat.one_mul] at hvi
      have e1 : (v + 2 ^ j) * 2 ^ i + 2 ^ i - 1 = (v * 2 ^ i + 2 ^ i - 1) + 2 ^ (j + i) := by
        rw [Nat.add_mul, hij]; omega
      have hjh : j + i < h := by
        refine (Nat.pow_lt_pow_iff_right (a := 2) (by omega)).1 ?_
        rw [e1] at hb; omega
      have hph : 2 * 2 ^ (j + i) ≤ 2 ^ h := by
        have : 2 ^ (j + i + 1) ≤ 2 ^ h := Nat.pow_le_pow_right (by omega) hjh
        rw [Nat.pow_succ] at this; omega
      have e2 : v * 2 ^ (i + 1) + 2 ^ (i + 1) - 1 = 2 * (v * 2 ^ i + 2 ^ i - 1) + 1 := by
        rw [Nat.pow_succ, ← Nat.mul_assoc]; omega
      have hr2 : R (v * 2 ^ (i + 1) + 2 ^ (i + 1) - 1) := by
        rw [e2]
        refine H1 _ (j + i) (by omega) hjh ?_ (by rw [← e1]; exact hr)
        rw [Nat.div_eq_of_lt (by omega)]
      have := ih v (by omega) (i + 1) (by rw [e2]; omega) hr2
      rw [pcN_top h v j hv (by omega)]
      rw [show pcN h v + 1 + i = pcN h v + (i + 1) by omega]; exact this
theorem conn_up (H0 : ∀ c, 2 * c < 2 ^ h → R c → R (2 * c)) (H1 : ∀ c j, 2 * c + 1 < 2 ^ h → j < h → c / 2 ^ j % 2 = 0 → R (c + 2 ^ j) → R (2 * c + 1)) : ∀ a, a < 2 ^ h → R (2 ^ pcN h a - 1) → R a := by
  intro a
  induction a using Nat.strongRecOn with
  | _ a ih =>
    intro ha hr
    obtain ⟨u, m, e⟩ := ones_form a
    cases m with
    | zero =>
      have e : a = 2 * u := by rw [e]; simp; omega
      subst e
      by_cases hu : u = 0
      · subst hu
        rw [Nat.mul_zero, pcN_zero] at hr; exact hr
      · exact H0 u ha (ih u (by omega) (by omega) (by rw [← pcN_even ha]; exact hr))
    | succ m =>
      have hpm : 0 < 2 ^ m := Nat.two_pow_pos m
      by_cases hu : u = 0
      · subst hu
        rw [Nat.zero_mul, Nat.zero_add] at e
        have hp : pcN h a = m + 1 := by
          have := pcN_low (h := h) (u := 0) (m + 1) (by rw [Nat.zero_mul, Nat.zero_add, ← e]; exact ha)
          rw [Nat.zero_mul, Nat.zero_add, ← e, pcN_zero] at this; omega
        rw [hp, ← e] at hr; exact hr
      · have hp1 : 2 ^ (m + 1) = 2 * 2 ^ m := by rw [Nat.pow_succ]; omega
        have hp2 : u * 2 ^ (m + 1 + 1) = 4 * (u * 2 ^ m) := by rw [Nat.pow_succ, Nat.pow_succ, ← Nat.mul_assoc, ← Nat.mul_assoc]; omega
        have hp3 : u * 2 ^ (m + 1) = 2 * (u * 2 ^ m) := by rw [Nat.pow_succ, ← Nat.mul_assoc]; omega
        have hum : 2 ^ m ≤ u * 2 ^ m := Nat.le_mul_of_pos_left _ (by omega)
        have e1 : a = 2 * (u * 2 ^ (m + 1) + 2 ^ m - 1) + 1 := by omega
        have e2 : (u * 2 ^ (m + 1) + 2 ^ m - 1) + 2 ^ m = u * 2 ^ (m + 1) + 2 ^ (m + 1) - 1 := by omega
        have hmh : m < h := by
          refine (Nat.pow_lt_pow_iff_right (a := 2) (by omega)).1 ?_
          omega
        have hpa : pcN h a = pcN h u + (m + 1) := by
          have h3 : pcN h (u * 2 ^ (m + 1 + 1) + 2 ^ (m + 1) - 1) = pcN h (2 * u) + (m + 1) := by
            rw [show u * 2 ^ (m + 1 + 1) = 2 * u * 2 ^ (m + 1) by rw [hp2, Nat.mul_assoc, hp3]; omega]
            exact pcN_low (m + 1) (by rw [Nat.mul_assoc]; omega)
          have hu2 : 2 * u ≤ u * 2 ^ (m + 1) := by rw [hp3]; exact Nat.mul_le_mul_left 2 (Nat.le_mul_of_pos_right _ hpm)
          rw [e, h3, pcN_even (by omega)]
        have hpb := pcN_low (h := h) (u := u) (m + 1) (by omega)
        rw [e1]
        refine H1 _ m (by omega) hmh ?_ ?_
        · rw [show u * 2 ^ (m + 1) + 2 ^ m - 1 = (2 ^ m - 1) + 2 ^ m * (2 * u) by rw [Nat.pow_succ, ← Nat.mul_assoc, Nat.mul_comm (2 ^ m) (2 * u), Nat.mul_comm 2 u, Nat.mul_right_comm u 2]; omega]
          rw [Nat.add_mul_div_left _ _ hpm, Nat.div_eq_of_lt (by omega)]; omega
        · rw [e2]
          refine ih _ (by omega) (by omega) ?_
          rw [hpb, ← hpa]; exact hr
theorem conn (H0 : ∀ c, 2 * c < 2 ^ h → R c → R (2 * c)) (H1 : ∀ c j, 2 * c + 1 < 2 ^ h → j < h → c / 2 ^ j % 2 = 0 → R (c + 2 ^ j) → R (2 * c + 1)) {a b : Nat} (ha : a < 2 ^ h) (hb : b < 2 ^ h) (hab : pcN h a = pcN h b) (hr : R b) : R a := by
  refine conn_up H0 H1 a ha ?_
  have := conn_down H1 b 0 (by rw [Nat.pow_zero, Nat.mul_one]; omega) (by rw [Nat.pow_zero, Nat.mul_one]; exact hr)
  rw [hab]; exact this
end
theorem neg_set : ∀ (out : List Int) (v : Nat) (x d : Int), out[v]? = some x → x < 0 → 0 ≤ d → (out.set v d).countP (fun y => decide (y < 0)) + 1 = out.countP (fun y => decide (y < 0))
  | [], v, x, d, h, _, _ => by simp at h
  | y :: out, 0, x, d, h, hx, hd => by
    obtain rfl : y = x := by simpa using h
    rw [List.set_cons_zero, List.countP_cons, List.countP_cons]
    rw [if_neg (by simp; omega), if_pos (by simp; omega)]
  | y :: out, v + 1, x, d, h, hx, hd => by
    have := neg_set out v x d (by simpa using h) hx hd
    rw [List.set_cons_succ, List.countP_cons, List.countP_cons]; omega
theorem neg_rep (n : Nat) : (List.replicate n (-1 : Int)).countP (fun y => decide (y < 0)) = n := by
  induction n with
  | zero => rfl
  | succ n ih => rw [List.replicate_succ, List.countP_cons, ih, if_pos (by simp)]
/-- A search in breadth, some way on: k places of the queue are done, and i of the next. -/
structure Bfs (n s : Nat) (rows : List (List Int)) (out qs : List Int) (k i : Nat) : Prop where
  start : out[s]? = some 0
  qin : ∀ (x : Nat) (d : Int), out[x]? = some d → 0 ≤ d → (x : Int) ∈ qs
  qok : ∀ (j : Nat) (x : Int), qs[j]? = some x → 0 ≤ x ∧ ∃ d, out[x.toNat]? = some d ∧ 0 ≤ d ∧ d ≤ (j : Int)
  par : ∀ (x : Nat) (d : Int), out[x]? = some d → 0 ≤ d → x = s ∨ ∃ (u : Nat) (r : List Int), rows[u]? = some r ∧ (x : Int) ∈ r ∧ out[u]? = some (d - 1) ∧ 0 ≤ d - 1
  fin : ∀ (j : Nat) (x : Int) (r : List Int) (v : Int), j < k → qs[j]? = some x → rows[x.toNat]? = some r → v ∈ r → ∃ e, out[v.toNat]? = some e ∧ 0 ≤ e
  now : ∀ (x : Int) (r : List Int) (j : Nat) (v : Int), qs[k]? = some x → rows[x.toNat]? = some r → j < i → r[j]? = some v → ∃ e, out[v.toNat]? = some e ∧ 0 ≤ e
  count : qs.length + out.countP (fun y => decide (y < 0)) = n
  len : out.length = n
theorem Bfs.init {n s : Nat} (rows : List (List Int)) (hs : s < n) : Bfs n s rows ((List.replicate n (-1)).set s 0) [(s : Int)] 0 0 := by
  have h0 : (List.replicate n (-1 : Int))[s]? = some (-1) := by rw [List.getElem?_replicate, if_pos hs]
  have hx : ∀ (x : Nat) (d : Int), ((List.replicate n (-1 : Int)).set s 0)[x]? = some d → 0 ≤ d → x = s ∧ d = 0 := by
    intro x d h hd
    rw [List.getElem?_set] at h
    split at h
    · rename_i e
      split at h
      · injection h with h; exact ⟨e.symm, h.symm⟩
      · cases h
    · rw [List.getElem?_replicate] at h
      split at h
      · injection h with h; omega
      · cases h
  have hst : ((List.replicate n (-1 : Int)).set s 0)[s]? = some 0 := by rw [List.getElem?_set_self (by simpa using hs)]
  refine ⟨hst, ?_, ?_, ?_, ?_, ?_, ?_, by simp⟩
  · intro x d h hd
    obtain ⟨rfl, _⟩ := hx x d h hd
    simp
  · intro j x h
    cases j with
    | zero =>
      obtain rfl : (s : Int) = x := by simpa using h
      exact ⟨by omega, 0, by rw [Int.toNat_natCast]; exact hst, by omega, by omega⟩
    | succ j => simp at h
  · intro x d h hd
    exact .inl (hx x d h hd).1
  · intro j _ _ _ hj; omega
  · intro _ _ j _ _ _ hj; omega
  · have := neg_set _ s _ 0 h0 (by omega) (by omega)
    rw [neg_rep] at this
    rw [List.length_singleton]; omega
theorem Bfs.bd {n s k i : Nat} {rows : List (List Int)} {out qs : List Int} (h : Bfs n s rows out qs k i) : qs.length ≤ n := by have := h.count; omega
theorem Bfs.skip {n s k i : Nat} {rows : List (List Int)} {out qs r : List Int} {x v e : Int} (h : Bfs n s rows out qs k i) (hq : qs[k]? = some x) (hr : rows[x.toNat]? = some r) (hv : r[i]? = some v) (he : out[v.toNat]? = some e) (h0 : 0 ≤ e) : Bfs n s rows out qs k (i + 1) := by
  refine ⟨h.start, h.qin, h.qok, h.par, h.fin, ?_, h.count, h.len⟩
  intro x' r' j v' hx' hr' hj hv'
  rcases Nat.lt_or_ge j i with hlt | hge
  · exact h.now x' r' j v' hx' hr' hlt hv'
  · obtain rfl : j = i := by omega
    rw [hq] at hx'; injection hx' with hx'; subst hx'
    rw [hr] at hr'; injection hr' with hr'; subst hr'
    rw [hv] at hv'; injection hv' with hv'; subst hv'
    exact ⟨e, he, h0⟩
theorem Bfs.add {n s k i : Nat} {rows : List (List Int)} {out qs r : List Int} {x v e d : Int} (h : Bfs n s rows out qs k i) (hq : qs[k]? = some x) (hr : rows[x.toNat]? = some r) (hv : r[i]? = some v) (hv0 : 0 ≤ v) (he : out[v.toNat]? = some e) (h0 : e < 0) (hd : out[x.toNat]? = some d) : Bfs n s rows (out.set v.toNat (d + 1)) (qs ++ [v]) k (i + 1) := by
  have hvl := (List.getElem?_eq_some_iff.1 he).1
  obtain ⟨hx0, d', hd', d0, dk⟩ := h.qok k x hq
  rw [hd] at hd'; injection hd' with hd'; subst hd'
  have keep : ∀ (y : Nat) (c : Int), out[y]? = some c → 0 ≤ c → (out.set v.toNat (d + 1))[y]? = some c := by
    intro y c hy hc
    rw [List.getElem?_set_ne]
    · exact hy
    · intro e'; subst e'; rw [he] at hy; injection hy with hy; omega
  have hnew : (out.set v.toNat (d + 1))[v.toNat]? = some (d + 1) := List.getElem?_set_self hvl
  have hkl : k < qs.length := (List.getElem?_eq_some_iff.1 hq).1
  have old : ∀ (y : Nat) (c : Int), (out.set v.toNat (d + 1))[y]? = some c → (y = v.toNat ∧ c = d + 1) ∨ out[y]? = some c := by
    intro y c hy
    rw [List.getElem?_set] at hy
    split at hy
    · rename_i e'
      injection hy with hy
      exact .inl ⟨e'.symm, hy.symm⟩
    · exact .inr hy
  refine ⟨keep _ _ h.start (by omega), ?_, ?_, ?_, ?_, ?_, ?_, by rw [List.length_set]; exact h.len⟩
  · intro y c hy hc
    rcases old y c hy with ⟨rfl, rfl⟩ | hy
    · rw [Int.toNat_of_nonneg hv0]; simp
    · exact List.mem_append_left _ (h.qin y c hy hc)
  · intro j y hj
    rcases Nat.lt_or_ge j qs.length with hlt | hge
    · rw [List.getElem?_append_left hlt] at hj
      obtain ⟨a, c, b1, b2, b3⟩ := h.qok j y hj
      exact ⟨a, c, keep _ _ b1 b2, b2, b3⟩
    · rw [List.getElem?_append_right hge] at hj
      have hj0 : j - qs.length = 0 := by
        have := (List.getElem?_eq_some_iff.1 hj).1
        simp at this; omega
      rw [hj0] at hj
      obtain rfl : v = y := by simpa using hj
      exact ⟨hv0, d + 1, hnew, by omega, by omega⟩
  · intro y c hy hc
    rcases old y c hy with ⟨rfl, rfl⟩ | hy
    · right
      refine ⟨x.toNat, r, hr, ?_, keep _ _ (by rw [hd]; congr 1; omega) (by omega), by omega⟩
      rw [Int.toNat_of_nonneg hv0]; exact List.mem_of_getElem? hv
    · rcases h.par y c hy hc with rfl | ⟨u, r', a1, a2, a3, a4⟩
      · exact .inl rfl
      · exact .inr ⟨u, r', a1, a2, keep _ _ a3 a4, a4⟩
  · intro j y r' v' hj hy hr' hv'
    rw [List.getElem?_append_left (by omega)] at hy
    obtain ⟨c, c1, c2⟩ := h.fin j y r' v' hj hy hr' hv'
    exact ⟨c, keep _ _ c1 c2, c2⟩
  · intro x' r' j v' hx' hr' hj hv'
    rw [List.getElem?_append_left hkl] at hx'
    rcases Nat.lt_or_ge j i with hlt | hge
    · obtain ⟨c, c1, c2⟩ := h.now x' r' j v' hx' hr' hlt hv'
      exact ⟨c, keep _ _ c1 c2, c2⟩
    · obtain rfl : j = i := by omega
      rw [hq] at hx'; injection hx' with hx'; subst hx'
      rw [hr] at hr'; injection hr' with hr'; subst hr'
      rw [hv] at hv'; injection hv' with hv'; subst hv'
      exact ⟨d + 1, hnew, by omega⟩
  · have := neg_set out v.toNat e (d + 1) he h0 (by omega)
    have := h.count
    rw [List.length_append, List.length_singleton]; omega
theorem Bfs.next {n s k i : Nat} {rows : List (List Int)} {out qs r : List Int} {x : Int} (h : Bfs n s rows out qs k i) (hq : qs[k]? = some x) (hr : rows[x.toNat]? = some r) (hi : r.length ≤ i) : Bfs n s rows out qs (k + 1) 0 := by
  refine ⟨h.start, h.qin, h.qok, h.par, ?_, ?_, h.count, h.len⟩
  · intro j y r' v hj hy hr' hv
    rcases Nat.lt_or_ge j k with hlt | hge
    · exact h.fin j y r' v hlt hy hr' hv
    · obtain rfl : j = k := by omega
      rw [hq] at hy; injection hy with hy; subst hy
      rw [hr] at hr'; injection hr' with hr'; subst hr'
      obtain ⟨m, hm, e⟩ := List.getElem_of_mem hv
      exact h.now x r m v hq hr (by omega) (by rw [List.getElem?_eq_getElem hm, e])
  · intro _ _ j _ _ _ hj; omega
/-- What the search leaves. -/
structure FarOk (n s : Nat) (bk : List (Nat × Nat)) (out : List Int) : Prop where
  start : out[s]? = some 0
  par : ∀ (x : Nat) (d : Int), out[x]? = some d → 0 ≤ d → x = s ∨ ∃ u : Nat, (u, x) ∈ bk ∧ out[u]? = some (d - 1) ∧ 0 ≤ d - 1
  closed : ∀ (u v : Nat) (d : Int), (u, v) ∈ bk → out[u]? = some d → 0 ≤ d → ∃ e, out[v]? = some e ∧ 0 ≤ e
  bd : ∀ (x : Nat) (d : Int), out[x]? = some d → d ≤ n
  len : out.length = n
/-- The rows of the followers. -/
def RowsOk (bk : List (Nat × Nat)) (rows : List (List Int)) : Prop :=
  (∀ (u : Nat) (r : List Int) (v : Int), rows[u]? = some r → v ∈ r → ∃ V : Nat, v = (V : Int) ∧ (u, V) ∈ bk) ∧ ∀ (u v : Nat), (u, v) ∈ bk → ∃ r, rows[u]? = some r ∧ (v : Int) ∈ r
theorem Bfs.far {n s k i : Nat} {rows : List (List Int)} {out qs : List Int} {bk : List (Nat × Nat)} (h : Bfs n s rows out qs k i) (hk : qs.length ≤ k) (hR : RowsOk bk rows) : FarOk n s bk out := by
  refine ⟨h.start, ?_, ?_, ?_, h.len⟩
  · intro x d hx hd
    rcases h.par x d hx hd with e | ⟨u, r, a1, a2, a3, a4⟩
    · exact .inl e
    · obtain ⟨V, e, hm⟩ := hR.1 u r x a1 a2
      obtain rfl : x = V := by omega
      exact .inr ⟨u, hm, a3, a4⟩
  · intro u v d hm hu hd
    obtain ⟨r, h1, h2⟩ := hR.2 u v hm
    have hq := h.qin u d hu hd
    obtain ⟨j, hj, e⟩ := List.getElem_of_mem hq
    have := h.fin j u r v (by omega) (by rw [List.getElem?_eq_getElem hj, e]) (by rw [Int.toNat_natCast]; exact h1) h2
    rw [Int.toNat_natCast] at this; exact this
  · intro x d hx
    by_cases hd : 0 ≤ d
    · have hq := h.qin x d hx hd
      obtain ⟨j, hj, e⟩ := List.getElem_of_mem hq
      obtain ⟨_, c, c1, c2, c3⟩ := h.qok j x (by rw [List.getElem?_eq_getElem hj, e])
      rw [Int.toNat_natCast, hx] at c1
      injection c1 with c1
      have := h.bd
      omega
    · omega

theorem popc_nat : ∀ (h m : Nat), popc h (m : Int) = (pcN h m : Int)
  | 0, _ => rfl
  | h + 1, m => by
    rw [popc, pcN, show (m : Int) / 2 = ((m / 2 : Nat) : Int) by omega, popc_nat h (m / 2)]; omega
theorem bitB_nat {m : Nat} (t : Nat) (hm : m < 1024) : bitB (m : Int) (t : Int) = (m / 2 ^ t % 2 == 1) := by
  rw [bitB_eq _ _ (by omega) (by omega), Int.toNat_natCast]
  have e : (m : Int) / 2 ^ t % 2 = ((m / 2 ^ t % 2 : Nat) : Int) := by simp
  rw [e, Bool.eq_iff_iff]; simp; omega
theorem nextM_nat (c j : Nat) (hc : c < 1024) (hj : j < 10) : nextM ((2 * c + 1 : Nat) : Int) ((j : Int) + 1) = ((c ||| 2 ^ j : Nat) : Int) := by
  rw [nextM_pos _ _ (by omega), show (((2 * c + 1 : Nat) : Int)) / 2 = (c : Int) by omega, show ((j : Int) + 1).toNat - 1 = j by omega]
  have hp : (2 : Nat) ^ j ≤ 2 ^ 10 := Nat.pow_le_pow_right (by omega) (by omega)
  have e : (2 : Int) ^ j = ((2 ^ j : Nat) : Int) := by simp
  rw [e]; exact bits_or_nat c (2 ^ j) (by omega) (by omega)
theorem half_pow (c j : Nat) : (2 * c + 1) / 2 ^ (j + 1) = c / 2 ^ j := by
  have e : 2 ^ (j + 1) = 2 * 2 ^ j := by rw [Nat.pow_succ]; omega
  rw [e, ← Nat.div_div_eq_div_mul, show (2 * c + 1) / 2 = c by omega]
section
variable {h : Nat}
theorem pow10 (hh : h ≤ 10) : 2 ^ h ≤ 1024 := by
  have : (2 : Nat) ^ h ≤ 2 ^ 10 := Nat.pow_le_pow_right (by omega) (by omega)
  omega
theorem can_even (hh : h ≤ 10) {c : Nat} (hc : 2 * c < 2 ^ h) : canB (h : Int) ((2 * c : Nat) : Int) 0 = true := by
  have := pow10 hh
  rw [canB_zero]
  have := bitB_nat (m := 2 * c) 0 (by omega)
  rw [show (0 : Int) = ((0 : Nat) : Int) by rfl, this, Nat.pow_zero, Nat.div_one, show 2 * c % 2 = 0 by omega]; rfl
theorem can_odd (hh : h ≤ 10) {c j : Nat} (hc : 2 * c + 1 < 2 ^ h) (hj : j < h) (hb : c / 2 ^ j % 2 = 0) : canB (h : Int) ((2 * c + 1 : Nat) : Int) ((j : Int) + 1) = true := by
  have := pow10 hh
  have b0 := bitB_nat (m := 2 * c + 1) 0 (by omega)
  rw [Nat.pow_zero, Nat.div_one, show (2 * c + 1) % 2 = 1 by omega] at b0
  have b1 := bitB_nat (m := 2 * c + 1) (j + 1) (by omega)
  rw [half_pow c j, hb] at b1
  rw [canB_yes _ _ _ (by omega) ((betweenB_iff _ _ _).2 (by omega)) b0]
  rw [show ((j : Int) + 1) = ((j + 1 : Nat) : Int) by omega, b1]; rfl
theorem can_cases (hh : h ≤ 10) {M : Nat} {t : Int} (hM : M < 2 ^ h) (k : canB (h : Int) (M : Int) t = true) :
    (t = 0 ∧ ∃ c, M = 2 * c ∧ nextM (M : Int) t = (c : Int)) ∨ ∃ c j : Nat, M = 2 * c + 1 ∧ t = (j : Int) + 1 ∧ j < h ∧ c / 2 ^ j % 2 = 0 ∧ nextM (M : Int) t = ((c + 2 ^ j : Nat) : Int) := by
  have h1 := pow10 hh
  have b0 := bitB_nat (m := M) 0 (by omega)
  rw [Nat.pow_zero, Nat.div_one] at b0
  by_cases ht : t = 0
  · subst ht
    rw [canB_zero] at k
    have k2 : bitB (M : Int) ((0 : Nat) : Int) = false := by simpa using k
    rw [b0] at k2
    have : M % 2 = 0 := by have : ¬ M % 2 = 1 := by simpa using k2
                           omega
    exact .inl ⟨rfl, M / 2, by omega, by rw [nextM_not _ _ (by omega)]; omega⟩
  · right
    unfold canB at k
    rw [if_neg ht, Bool.and_eq_true, Bool.and_eq_true, betweenB_iff] at k
    obtain ⟨⟨k1, k2⟩, k3⟩ := k
    have k2 : bitB (M : Int) ((0 : Nat) : Int) = true := k2
    rw [b0] at k2
    have k2 : M % 2 = 1 := by simpa using k2
    obtain ⟨j, rfl⟩ : ∃ j : Nat, t = (j : Int) + 1 := ⟨(t - 1).toNat, by omega⟩
    obtain ⟨c, rfl⟩ : ∃ c, M = 2 * c + 1 := ⟨M / 2, by omega⟩
    have b1 := bitB_nat (m := 2 * c + 1) (j + 1) (by omega)
    rw [half_pow c j] at b1
    rw [show ((j : Int) + 1) = ((j + 1 : Nat) : Int) by omega, b1] at k3
    have k4 : c / 2 ^ j % 2 = 0 := by have : ¬ c / 2 ^ j % 2 = 1 := by simpa using k3
                                      omega
    exact ⟨c, j, rfl, rfl, by omega, k4, by rw [nextM_nat c j (by omega) (by omega), or_clear k4]⟩
/-- A throw leads to a state with as many props. -/
theorem next_facts (hh : h ≤ 10) {m t : Int} (m0 : 0 ≤ m) (m1 : m < 2 ^ h) (k : canB (h : Int) m t = true) : 0 ≤ nextM m t ∧ nextM m t < 2 ^ h ∧ popc h (nextM m t) = popc h m := by
  obtain ⟨M, rfl⟩ := Int.eq_ofNat_of_zero_le m0
  have e : ((2 ^ h : Nat) : Int) = 2 ^ h := by simp
  have hM : M < 2 ^ h := by omega
  rcases can_cases hh hM k with ⟨_, c, rfl, hn⟩ | ⟨c, j, rfl, _, hj, hb, hn⟩
  · rw [hn, popc_nat, popc_nat, pcN_even hM]
    exact ⟨by omega, by omega, rfl⟩
  · have := step_lt hM hj
    rw [hn, popc_nat, popc_nat, pcN_odd hM, pcN_set h c j hb hj]
    exact ⟨Int.natCast_nonneg _, by rw [← e]; exact Int.ofNat_lt.2 this, rfl⟩
end
/-- A throw leads from the i-th state to the j-th. -/
def isArc (ms : List Int) (h : Nat) (i : Nat) (t : Int) (j : Nat) : Prop := ∃ m, ms[i]? = some m ∧ 0 ≤ t ∧ t ≤ h ∧ canB (h : Int) m t = true ∧ ms[j]? = some (nextM m t)
/-- The arcs that lead back. -/
def BackOk (ms : List Int) (h : Nat) (bk : List (Nat × Nat)) : Prop := (∀ u v, (u, v) ∈ bk → ∃ t, isArc ms h v t u) ∧ ∀ u v t, isArc ms h v t u → (u, v) ∈ bk
theorem msks_mem {p : Int} {h : Nat} {x : Int} : x ∈ msks p (h : Int) ↔ 0 ≤ x ∧ x < 2 ^ h ∧ popc h x = p := by
  have e : ((2 ^ h : Nat) : Int) = 2 ^ h := by simp
  unfold msks
  rw [Int.toNat_natCast]
  constructor
  · intro k
    have := mskL_mem _ _ _ _ _ k
    exact ⟨this.1, by omega, this.2.2⟩
  · rintro ⟨a, b, c⟩
    exact mskL_all _ _ _ _ _ a (by omega) c
/-- All states are reached. -/
theorem reach_all {p : Int} {h s n : Nat} {bk : List (Nat × Nat)} {out : List Int} (hh : h ≤ 10) (hB : BackOk (msks p (h : Int)) h bk) (hF : FarOk n s bk out) (hs : s < (msks p (h : Int)).length) {x : Nat} (hx : x < (msks p (h : Int)).length) : ∃ d, out[x]? = some d ∧ 0 ≤ d := by
  have e : ((2 ^ h : Nat) : Int) = 2 ^ h := by simp
  have key : ∀ (m : Int) (i : Nat), (msks p (h : Int))[i]? = some m → ∃ M : Nat, m = (M : Int) ∧ M < 2 ^ h ∧ (pcN h M : Int) = p := by
    intro m i hi
    obtain ⟨a, b, c⟩ := msks_mem.1 (List.mem_of_getElem? hi)
    obtain ⟨M, rfl⟩ := Int.eq_ofNat_of_zero_le a
    exact ⟨M, rfl, by omega, by rw [← popc_nat]; exact c⟩
  have find : ∀ M : Nat, M < 2 ^ h → (pcN h M : Int) = p → ∃ i : Nat, (msks p (h : Int))[i]? = some (M : Int) := by
    intro M hM hp
    obtain ⟨i, hi, e'⟩ := List.getElem_of_mem (msks_mem (p := p) (h := h) (x := (M : Int)).2 ⟨Int.natCast_nonneg M, by omega, by rw [popc_nat]; exact hp⟩)
    exact ⟨i, by rw [List.getElem?_eq_getElem hi, e']⟩
  have hxa : (msks p (h : Int))[x]? = some (msks p (h : Int))[x] := List.getElem?_eq_getElem hx
  have hsa : (msks p (h : Int))[s]? = some (msks p (h : Int))[s] := List.getElem?_eq_getElem hs
  obtain ⟨X, eX, hX, pX⟩ := key _ _ hxa
  obtain ⟨S, eS, hS, pS⟩ := key _ _ hsa
  rw [eX] at hxa
  rw [eS] at hsa
  have inj : ∀ (i j : Nat) (m : Int), (msks p (h : Int))[i]? = some m → (msks p (h : Int))[j]? = some m → i = j := by
    intro i j m hi hj
    have hr : (msks p (h : Int)).Pairwise (· < ·) := mskL_rises _ _ _ _
    rcases Nat.lt_trichotomy i j with hlt | heq | hgt
    · have := rise_lt hr hi hj hlt; omega
    · exact heq
    · have := rise_lt hr hj hi hgt; omega
  refine conn (h := h) (R := fun M => ∀ i : Nat, (msks p (h : Int))[i]? = some (M : Int) → ∃ d, out[i]? = some d ∧ 0 ≤ d) ?_ ?_ hX hS (by omega) ?_ x hxa
  · intro c hc hR i hi
    obtain ⟨M, eM, hM, pM⟩ := key _ _ hi
    obtain rfl : 2 * c = M := by omega
    rw [pcN_even hc] at pM
    obtain ⟨u, hu⟩ := find c (by omega) pM
    obtain ⟨d, hd, d0⟩ := hR u hu
    exact hF.closed u i d (hB.2 u i 0 ⟨_, hi, by omega, by omega, can_even hh hc, by rw [nextM_not _ _ (by omega), hu]; congr 1; omega⟩) hd d0
  · intro c j hc hj hb hR i hi
    obtain ⟨M, eM, hM, pM⟩ := key _ _ hi
    obtain rfl : 2 * c + 1 = M := by omega
    rw [pcN_odd hc] at pM
    have hp := pcN_set h c j hb hj
    obtain ⟨u, hu⟩ := find (c + 2 ^ j) (step_lt hc hj) (by rw [hp]; exact pM)
    obtain ⟨d, hd, d0⟩ := hR u hu
    have h10 := pow10 hh
    exact hF.closed u i d (hB.2 u i _ ⟨_, hi, by omega, by omega, can_odd hh hc hj hb, by rw [nextM_nat c j (by omega) (by omega), or_clear hb]; exact hu⟩) hd d0
  · intro i hi
    obtain rfl := inj i s _ hi hsa
    exact ⟨0, hF.start, by omega⟩
/-- From a state that is not there yet a throw leads nearer. -/
theorem nearer {p : Int} {h s n x : Nat} {bk : List (Nat × Nat)} {out : List Int} {d m : Int} (hB : BackOk (msks p (h : Int)) h bk) (hF : FarOk n s bk out) (hx : out[x]? = some d) (d0 : 0 ≤ d) (hxs : x ≠ s) (hm : (msks p (h : Int))[x]? = some m) :
    0 ≤ d - 1 ∧ ∃ (t : Int) (u : Nat), 0 ≤ t ∧ t ≤ h ∧ canB (h : Int) m t = true ∧ (msks p (h : Int))[u]? = some (nextM m t) ∧ out[u]? = some (d - 1) := by
  rcases hF.par x d hx d0 with e | ⟨u, hu, hd, d1⟩
  · exact absurd e hxs
  · obtain ⟨t, m', h1, h2, h3, h4, h5⟩ := hB.1 u x hu
    rw [hm] at h1; injection h1 with h1; subst h1
    exact ⟨d1, t, u, h2, h3, h4, h5, hd⟩
/-- The throws that are possible, from t on. -/
def thF (h m : Int) : Nat → Int → List Int
  | 0, _ => []
  | f + 1, t => if canB h m t then t :: thF h m f (t + 1) else thF h m f (t + 1)
theorem thF_yes {h m t : Int} {f : Nat} (k : canB h m t = true) : thF h m (f + 1) t = t :: thF h m f (t + 1) := by simp [thF, k]
theorem thF_not {h m t : Int} {f : Nat} (k : canB h m t = false) : thF h m (f + 1) t = thF h m f (t + 1) := by simp [thF, k]
theorem thF_mem {h m x : Int} : ∀ {f : Nat} {t : Int}, x ∈ thF h m f t ↔ t ≤ x ∧ x < t + (f : Int) ∧ canB h m x = true
  | 0, t => by simp [thF]; omega
  | f + 1, t => by
    cases k : canB h m t with
    | true =>
      rw [thF_yes k, List.mem_cons, thF_mem]
      constructor
      · rintro (rfl | ⟨a, b, c⟩)
        · exact ⟨by omega, by omega, k⟩
        · exact ⟨by omega, by omega, c⟩
      · rintro ⟨a, b, c⟩
        by_cases e : x = t
        · exact .inl e
        · exact .inr ⟨by omega, by omega, c⟩
    | false =>
      rw [thF_not k, thF_mem]
      constructor
      · rintro ⟨a, b, c⟩
        exact ⟨by omega, by omega, c⟩
      · rintro ⟨a, b, c⟩
        have : x ≠ t := fun e => by subst e; rw [k] at c; cases c
        exact ⟨by omega, by omega, c⟩
theorem thF_len (h m : Int) : ∀ (f : Nat) (t : Int), (thF h m f t).length ≤ f
  | 0, _ => by simp [thF]
  | f + 1, t => by
    have := thF_len h m f (t + 1)
    unfold thF
    split
    · rw [List.length_cons]; omega
    · omega
end Go.Proofs.Ytlbhfjbbkkkldaa

/- Rows of rows whose blocks differ: a row of them grows. -/
namespace Go.Proofs.Ytlbhfjbbkkkldaa
open Go.RowKit
set_option linter.unusedVariables false

/-- 'append(out, x)' as a step of a region that draws its order; where the new slice lies. -/
theorem step_push_own2 {P : Program} {ops : Array Oper} {o : Oper} {a : Act} {w : World} {K : Act → World → Prop} {Q : Exit → Act → World → Prop} {E : Prop}
    {base n sz : Nat} {v : Value} {xs : List Value} {e : Nat} (hown : w.ownsRow base e sz v n xs) (g : Nat) (us : Array Value) (hcell : ∀ j u, us.toList[j]? = some u → w.cell? ⟨g, j, none⟩ = some u) (hl : us.size = sz) (h1 : ∀ u ∈ us.toList, u.oneCell' = true)
    {t : TypeId} {z : Value} {by_ : Nat} (ht : P.underlying t = some (.slice e)) (inf : (P.info? e).map (fun i => (i.zero, i.size, i.bytes)) = some (some z, sz, by_)) (hz : z.cells.size = sz) (hsz : 0 < sz)
    (hgd : o.guard = none) (s x : Operand) (ho : o.op = .call { callee := .builtin .append, args := #[s, x], argTypes := #[t, t] }) (hs : a.eval s = v) (hx : a.eval x = .slice (some ⟨g, 0, none⟩) 1 1)
    (hn : n ≤ 1099511627775) (hby : by_ ≤ 64) (hbase : base ≤ w.heap.size)
    (h : ∀ v' w', w'.ownsRow base e sz v' (n + 1) (xs ++ us.toList) → Below base w w' → w.grownBy w' v.ownBlock → SameOr v v' w.heap.size → K (a.put o.dst v') w') :
    if Region.wanted o (yielded ops a.tmps) = true then Oper.wp P o a w K Q else E := by
  have hw : Region.wanted o (yielded ops a.tmps) = true := by simp [Region.wanted, hgd]
  rw [if_pos hw]
  obtain ⟨i0, hi, hz0, hz1, hz2⟩ := info_parts inf
  obtain ⟨v', w', hr, h2, h3, h4, h5⟩ := run_append_own_at (P := P) w base t o.type e i0 z sz by_ ht hi hz0 hz1 hz2 hz hsz v n xs hown ⟨g, 0, none⟩ 1 1 us.toList (by simp [hl]) (by
    intro j u hu
    have e1 : (⟨g, 0, none⟩ : Addr).add j = ⟨g, j, none⟩ := by unfold Addr.add; split <;> simp_all
    rw [e1]; exact hcell j u hu) h1 (by unfold maxLen; omega) (by have := Nat.mul_le_mul (show n + 1 ≤ 1099511627776 by omega) hby; omega) hbase
  unfold Oper.wp execOp
  simp only [ho, resolve, invoke, builtin, Sem.run_bind, Sem.run_pure, Result.andThen_ok, List.map_toArray, List.map_cons, List.map_nil, hs, hx, hr]
  refine h v' w' h2 ((Below.refl base w).grown h3 hbase (fun k hk => (hown.lt k hk).1)) h3 ?_
  rcases h5 with h5 | h5
  · exact .inl h5
  · exact .inr ⟨_, h5, Nat.le_refl _⟩
/-- 'append(rows, row)'; the new element's block is the heap's size in any spelling. -/
theorem push_rowH {P : Program} {w : World} {ops : Array Oper} {rest : List Oper} {o : Oper} {a : Act} {Q : Exit → Act → World → Prop}
    {base M : Nat} {v u : Value} {rows : List (List Int)} {row : List Int} (hG : Grid w base M v rows)
    (hu : w.ownsRow base 2 1 u row.length (ints row)) (hum : ∀ g, u.ownBlock = some g → M ≤ g) (hM : M ≤ w.heap.size) (e2 : TypeId)
    {t : TypeId} (ht : P.underlying t = some (.slice 43)) (inf : (P.info? 43).map (fun i => (i.zero, i.size, i.bytes)) = some (some (.slice none 0 0), 1, 24))
    (hgd : o.guard = none) (s x : Operand) (ho : o.op = .call { callee := .builtin .append, args := #[s, x], argTypes := #[t, t] }) (hs : a.eval s = v) {H : Nat} (hx : a.eval x = .slice (some ⟨H, 0, none⟩) 1 1) (hH : H = w.heap.size)
    (hn : rows.length ≤ 1099511627776) (hbase : base ≤ w.heap.size)
    (h : ∀ v' w', Grid w' base w.heap.size v' (rows ++ [row]) → Below base w w' → w.grownBy w' v.ownBlock → wpList P ops Q rest (a.put o.dst v') w') :
    wpList P ops Q (o :: rest) a (w.alloc (.cells #[u] e2)) := by
  subst hH
  exact push_row hG hu hum hM e2 ht inf hgd s x ho hs hx hn hbase h
/-- 'append(out, x)', where the new slice lies; the new element's block is the heap's size in any spelling. -/
theorem push_int2H {P : Program} {w : World} {ops : Array Oper} {rest : List Oper} {o : Oper} {a : Act} {Q : Exit → Act → World → Prop}
    {base : Nat} {v : Value} {xs : List Int} {e : Nat} (hown : w.ownsRow base e 1 v xs.length (ints xs)) (y : Int) (e2 : TypeId)
    {t : TypeId} {z : Value} (ht : P.underlying t = some (.slice e)) (inf : (P.info? e).map (fun i => (i.zero, i.size, i.bytes)) = some (some z, 1, 8)) (hz : z.cells.size = 1)
    (hgd : o.guard = none) (s x : Operand) (ho : o.op = .call { callee := .builtin .append, args := #[s, x], argTypes := #[t, t] }) (hs : a.eval s = v) {H : Nat} (hx : a.eval x = .slice (some ⟨H, 0, none⟩) 1 1) (hH : H = w.heap.size)
    (hn : xs.length ≤ 1099511627776) (hbase : base ≤ w.heap.size)
    (h : ∀ v' w', w'.ownsRow base e 1 v' (xs ++ [y]).length (ints (xs ++ [y])) → Below base w w' → w.grownBy w' v.ownBlock → SameOr v v' w.heap.size → wpList P ops Q rest (a.put o.dst v') w') :
    wpList P ops Q (o :: rest) a (w.alloc (.cells #[.int .i64 y] e2)) := by
  subst hH
  exact push_int2 hown y e2 ht inf hz hgd s x ho hs hx hn hbase h
/-- The blocks of two rows differ. -/
def Apart (u v : Value) : Prop := ∀ g, u.ownBlock = some g → v.ownBlock ≠ some g
/-- Rows of rows that the call itself made, their blocks all different. -/
def GridD (w : World) (base : Nat) (v : Value) (rows : List (List Int)) : Prop :=
  ∃ vs : List Value, vs.length = rows.length ∧ w.ownsRow base 43 1 v rows.length vs ∧
    (∀ (j : Nat) (u : Value) (row : List Int), vs[j]? = some u → rows[j]? = some row → w.ownsRow base 2 1 u row.length (ints row)) ∧ vs.Pairwise Apart
section
variable {w w' : World} {B n base M : Nat} {A : Option Addr} {v : Value} {rows : List (List Int)}
theorem Grid.apart (h : Grid w base M v rows) : GridD w base v rows := by
  obtain ⟨vs, h1, h2, h3, h4⟩ := h
  refine ⟨vs, h1, h2, fun j u row a b => (h3 j u row a b).1, h4.imp fun h g hu hv => ?_⟩
  have := h g g hu hv
  omega
theorem GridD.form (h : GridD w base v rows) : ∃ A c, v = .slice A rows.length c := by
  obtain ⟨vs, _, h2, _⟩ := h
  exact own_form h2
theorem GridD.lo (h : GridD w base v rows) (hb : Below B w w') (hB : w.heap.size ≤ B) : GridD w' base v rows := by
  obtain ⟨vs, h1, h2, h3, h4⟩ := h
  refine ⟨vs, h1, own_lo h2 hb (fun g hg => ?_), fun j u row a b => own_lo (h3 j u row a b) hb (fun g hg => ?_), h4⟩
  · have := (h2.lt g hg).2; omega
  · have := ((h3 j u row a b).lt g hg).2; omega
theorem GridD.below (h : GridD w base v rows) (hb : Below w.heap.size w w') : GridD w' base v rows := h.lo hb (Nat.le_refl _)
theorem GridD.drew (h : GridD w base v rows) : GridD w.drew base v rows := h
/-- Blocks outside are written. -/
theorem GridD.off {v2 : Value} (h : GridD w base v rows) (ho : ∀ g, v2.ownBlock = some g → g < base) (hg : w.grownBy w' v2.ownBlock) : GridD w' base v rows := by
  obtain ⟨vs, h1, h2, h3, h4⟩ := h
  have key : ∀ {u : Value} {e s n : Nat} {xs : List Value}, w.ownsRow base e s u n xs → w'.ownsRow base e s u n xs := by
    intro u e s n xs hu
    refine hu.kept hg ?_
    cases hb : u.ownBlock with
    | none => exact .inl rfl
    | some g => exact .inr fun e' => by have := ho g e'.symm; have := (hu.lt g hb).1; omega
  exact ⟨vs, h1, key h2, fun j u row a b => key (h3 j u row a b), h4⟩
theorem GridD.rdH {c : Nat} (h : GridD w base (.slice A n c) rows) : RdH w base w.heap.size A n rows := by
  obtain ⟨vs, h1, h2, h3, h4⟩ := h
  obtain ⟨A', c', e⟩ := own_form h2
  have hn : rows.length = n := by injection e with _ e _; exact e.symm
  rw [hn] at h2 h1
  refine ⟨hn, fun h0 => ?_⟩
  obtain ⟨b, off, eA, h9, hb, hc⟩ := (RdL.of_own h2).2 h0
  refine ⟨b, off, eA, h9, hb, fun j row hj => ?_⟩
  have hj2 : j < rows.length := (List.getElem?_eq_some_iff.1 hj).1
  have hu : vs[j]? = some (vs[j]'(by omega)) := List.getElem?_eq_getElem (by omega)
  have ho := h3 j _ row hu hj
  obtain ⟨Aj, cj, ev⟩ := own_form ho
  have hcc := hc j _ hu
  rw [ev] at ho hcc
  exact ⟨Aj, cj, hcc, RdL.of_own ho⟩
/-- A row grows, and is stored in its place. -/
theorem GridD.grow {i c : Nat} {row : List Int} (h : GridD w base (.slice A n c) rows) (hi : rows[i]? = some row) :
    ∃ b Ai ci, A = some ⟨b, 0, none⟩ ∧ base ≤ b ∧ b < w.heap.size ∧ n = rows.length ∧ w.cell? ⟨b, i, none⟩ = some (.slice Ai row.length ci) ∧ w.ownsRow base 2 1 (.slice Ai row.length ci) row.length (ints row) ∧
      ∀ w' A' row' c', w.grownBy w' (Value.slice Ai row.length ci).ownBlock → SameOr (.slice Ai row.length ci) (.slice A' row'.length c') w.heap.size → w'.ownsRow base 2 1 (.slice A' row'.length c') row'.length (ints row') →
        w'.cell? ⟨b, i, none⟩ = some (.slice Ai row.length ci) ∧ w'.frozen? ⟨b, i, none⟩ = false ∧ GridD (w'.setCell ⟨b, i, none⟩ (.slice A' row'.length c')) base (.slice A n c) (rows.set i row') := by
  obtain ⟨vs, h1, h2, h3, h4⟩ := h
  have hil : i < rows.length := (List.getElem?_eq_some_iff.1 hi).1
  have hu : vs[i]? = some (vs[i]'(by omega)) := List.getElem?_eq_getElem (by omega)
  generalize vs[i]'(by omega) = u at hu
  have ho := h3 i u row hu hi
  obtain ⟨Ai, ci, rfl⟩ := own_form ho
  obtain ⟨g, cap, e, hge, hgl⟩ := own_block h2 (by omega)
  injection e with eA en ec
  subst eA en ec
  refine ⟨g, Ai, ci, rfl, hge, hgl, rfl, (h2.cellAt i (by omega)).trans hu, ho, fun w' A' row' c' hgr hsame ho' => ?_⟩
  have k2 := own_types h2 ho (by decide) hgr
  obtain ⟨k3, g3⟩ := k2.stored i (.slice A' row'.length c')
  have ot : ∀ {v2 : Value} {n2 : Nat} {xs2 : List Value}, w'.ownsRow base 2 1 v2 n2 xs2 → (w'.setCell ⟨g, i, none⟩ (.slice A' row'.length c')).ownsRow base 2 1 v2 n2 xs2 := fun h => own_types h k2 (by decide) g3
  have far : ∀ (j : Nat) (x : Value), i ≠ j → vs[j]? = some x → Apart (.slice Ai row.length ci) x := by
    intro j x hij hx q hq hxq
    obtain ⟨hj2, ej⟩ := List.getElem?_eq_some_iff.1 hx
    obtain ⟨hi2, ei⟩ := List.getElem?_eq_some_iff.1 hu
    rcases Nat.lt_or_gt_of_ne hij with k | k
    · have := List.pairwise_iff_getElem.1 h4 i j hi2 hj2 k
      rw [ei, ej] at this
      exact this q hq hxq
    · have := List.pairwise_iff_getElem.1 h4 j i hj2 hi2 k
      rw [ei, ej] at this
      exact this q hxq hq
  have far' : ∀ (j : Nat) (x : Value), i ≠ j → vs[j]? = some x → Apart (.slice A' row'.length c') x := by
    intro j x hij hx q hq hxq
    rcases hsame with e | ⟨q', e, hb⟩
    · exact far j x hij hx q (by rw [← e]; exact hq) hxq
    · rw [e] at hq
      obtain rfl : q' = q := Option.some.inj hq
      have hjl : j < rows.length := by have := (List.getElem?_eq_some_iff.1 hx).1; omega
      have := ((h3 j x _ hx (List.getElem?_eq_getElem hjl)).lt q' hxq).2
      omega
  refine ⟨(k2.cellAt i (by omega)).trans hu, k2.frozenAt i, vs.set i (.slice A' row'.length c'), by rw [List.length_set, List.length_set, h1], by rw [List.length_set]; exact k3, fun j x r hx hr => ?_, ?_⟩
  · by_cases hij : i = j
    · subst hij
      rw [List.getElem?_set_self hil] at hr
      rw [List.getElem?_set_self (by omega)] at hx
      injection hx with hx
      injection hr with hr
      subst hx hr
      exact ot ho'
    · rw [List.getElem?_set_ne hij] at hx hr
      refine ot ((h3 j x r hx hr).kept hgr ?_)
      cases hb : (Value.slice Ai row.length ci).ownBlock with
      | none =>
        cases hxq : x.ownBlock with
        | none => exact .inl rfl
        | some q2 => exact .inr (by simp)
      | some q =>
        cases hxq : x.ownBlock with
        | none => exact .inl rfl
        | some q2 => exact .inr fun e => far j x hij hx q hb (by rw [hxq, e])
  · rw [List.pairwise_iff_getElem]
    intro j k hj hk hjk
    rw [List.length_set] at hj hk
    have hpw := List.pairwise_iff_getElem.1 h4 j k hj hk hjk
    rw [List.getElem_set, List.getElem_set]
    split
    · rename_i e
      subst e
      rw [if_neg (by omega)]
      exact far' k _ (by omega) (List.getElem?_eq_getElem hk)
    · split
      · rename_i e1 e2
        subst e2
        intro q hq hxq
        exact far' j _ (by omega) (List.getElem?_eq_getElem hj) q hxq hq
      · exact hpw
end
end Go.Proofs.Ytlbhfjbbkkkldaa

/- Arcs as cells: three for each; contract of l08Throws. -/
namespace Go.Proofs.Ytlbhfjbbkkkldaa
open Go.RowKit
set_option linter.unusedVariables false

abbrev Arc3 := Int × Int × Int
def arcC (a : Arc3) : List Value := [.int .i64 a.1, .int .i64 a.2.1, .int .i64 a.2.2]
def arcs (p : List Arc3) : List Value := p.flatMap arcC
theorem arcs_len (p : List Arc3) : (arcs p).length = p.length * 3 := by
  induction p with
  | nil => rfl
  | cons b p ih =>
    have : arcs (b :: p) = arcC b ++ arcs p := rfl
    rw [this, List.length_append, ih, List.length_cons]
    show 3 + p.length * 3 = _
    omega
theorem arcs_snoc (p : List Arc3) (b : Arc3) : arcs p ++ arcC b = arcs (p ++ [b]) := by simp [arcs]
theorem arcs_at : ∀ {p : List Arc3} {i : Nat} {b : Arc3}, p[i]? = some b → (arcs p)[i * 3]? = some (.int .i64 b.1) ∧ (arcs p)[i * 3 + 1]? = some (.int .i64 b.2.1) ∧ (arcs p)[i * 3 + 2]? = some (.int .i64 b.2.2) := by
  intro p
  induction p with
  | nil => intro i b h; simp at h
  | cons c p ih =>
    intro i b h
    have e : arcs (c :: p) = arcC c ++ arcs p := rfl
    have hl : (arcC c).length = 3 := rfl
    cases i with
    | zero =>
      simp at h; subst h
      rw [e]
      exact ⟨rfl, rfl, rfl⟩
    | succ i =>
      have h2 := ih (i := i) (b := b) (by simpa using h)
      rw [e]
      refine ⟨?_, ?_, ?_⟩
      · rw [List.getElem?_append_right (by omega), hl, show (i + 1) * 3 - 3 = i * 3 by omega]; exact h2.1
      · rw [List.getElem?_append_right (by omega), hl, show (i + 1) * 3 + 1 - 3 = i * 3 + 1 by omega]; exact h2.2.1
      · rw [List.getElem?_append_right (by omega), hl, show (i + 1) * 3 + 2 - 3 = i * 3 + 2 by omega]; exact h2.2.2
theorem Rd.arc_len {w : World} {B n : Nat} {A : Option Addr} {p : List Arc3} (h : Rd w B 3 A n (arcs p)) : p.length = n := by
  have := h.1
  rw [arcs_len] at this; omega
theorem Rd.arc_at {w : World} {B n i : Nat} {A : Option Addr} {p : List Arc3} (h : Rd w B 3 A n (arcs p)) (hi : i < n) :
    ∃ b off x, A = some ⟨b, off, none⟩ ∧ b < B ∧ p[i]? = some x ∧ w.cell? ⟨b, off + i * 3, none⟩ = some (.int .i64 x.1) ∧ w.cell? ⟨b, off + i * 3 + 1, none⟩ = some (.int .i64 x.2.1) ∧ w.cell? ⟨b, off + i * 3 + 2, none⟩ = some (.int .i64 x.2.2) := by
  have hl := h.arc_len
  obtain ⟨b, off, e, hb, hc⟩ := h.2 (by omega)
  obtain ⟨x, hx⟩ : ∃ x, p[i]? = some x := ⟨_, List.getElem?_eq_getElem (by omega)⟩
  obtain ⟨c0, c1, c2⟩ := arcs_at hx
  refine ⟨b, off, x, e, hb, hx, hc _ _ c0, ?_, ?_⟩
  · rw [show off + i * 3 + 1 = off + (i * 3 + 1) by omega]; exact hc _ _ c1
  · rw [show off + i * 3 + 2 = off + (i * 3 + 2) by omega]; exact hc _ _ c2
theorem arc_one (x y z : Int) : ∀ u ∈ (#[Value.int .i64 x, Value.int .i64 y, Value.int .i64 z] : Array Value).toList, u.oneCell' = true := by
  intro u hu; simp at hu; rcases hu with rfl | rfl | rfl <;> rfl
theorem inf_arc : (Try.prog.info? 179).map (fun i => (i.zero, i.size, i.bytes)) = some (some (.agg #[.int .i64 0, .int .i64 0, .int .i64 0]), 3, 24) := by kernel_rfl
/-- 'append(out, a)', a an arc. -/
theorem push_arc {w : World} {ops : Array Oper} {rest : List Oper} {o : Oper} {a : Act} {Q : Exit → Act → World → Prop}
    {base : Nat} {v : Value} {q : List Arc3} (hown : w.ownsRow base 179 3 v q.length (arcs q)) (x y z : Int) (e2 : TypeId)
    (hgd : o.guard = none) (s zz : Operand) (ho : o.op = .call { callee := .builtin .append, args := #[s, zz], argTypes := #[176, 176] }) (hs : a.eval s = v) {H : Nat} (hx : a.eval zz = .slice (some ⟨H, 0, none⟩) 1 1) (hH : H = w.heap.size)
    (hn : q.length ≤ 1099511627776) (hbase : base ≤ w.heap.size)
    (h : ∀ v' w', w'.ownsRow base 179 3 v' (q ++ [(x, y, z)]).length (arcs (q ++ [(x, y, z)])) → Below base w w' → w.grownBy w' v.ownBlock → wpList Try.prog ops Q rest (a.put o.dst v') w') :
    wpList Try.prog ops Q (o :: rest) a (w.alloc (.cells #[.int .i64 x, .int .i64 y, .int .i64 z] e2)) := by
  subst hH
  refine push_own hown #[.int .i64 x, .int .i64 y, .int .i64 z] e2 Try.underlying176 inf_arc rfl (by omega) hgd s zz ho hs hx rfl (arc_one x y z) hn (by omega) hbase fun v' w' h1 h2 h3 => h v' w' ?_ h2 h3
  rw [← arcs_snoc, List.length_append]; exact h1
set_option maxHeartbeats 1000000 in
theorem l08Throws_any (h : Nat) (m : Int) (w : World) (hh : h ≤ 10) :
    Calls Try.prog 206 #[.agg #[.int .i64 (h : Int), .int .i64 m]] w fun e w' => ∃ v, e = .returned v ∧ w'.ownsRow w.heap.size 2 1 v (thF h m (h + 1) 0).length (ints (thF h m (h + 1) 0)) ∧ Below w.heap.size w w' := by
  obtain ⟨R, hR⟩ : ∃ R, thF (h : Int) m (h + 1) 0 = R := ⟨_, rfl⟩
  have hst : Hid (([] : List Int) ++ thF (h : Int) m (h + 1) ((0 : Nat) : Int) = R) := hR
  rw [hR]
  clear hR
  have hX : Hid (Bx ((w.alloc (Obj.cells #[.int .i64 (h : Int), .int .i64 m] 119)).alloc (Obj.cells #[] 2)) w.heap.size 119 #[.int .i64 (h : Int), .int .i64 m]) := (Bx.new _ _ _).alloc _
  have hO : Hid (((w.alloc (Obj.cells #[.int .i64 (h : Int), .int .i64 m] 119)).alloc (Obj.cells #[] 2)).ownsRow (w.heap.size + 1) 2 1 (.slice (some ⟨w.heap.size + 1, 0, none⟩) 0 0) ([] : List Int).length (ints [])) := by
    have := World.ownsRow_lit (base := w.heap.size + 1) (w.alloc (Obj.cells #[.int .i64 (h : Int), .int .i64 m] 119)) #[] (e := 2) (size := 1) 0 (by simp) (by simp [maxLen]) rfl
    show World.ownsRow _ _ _ _ _ _ _
    simpa [ints] using this
  go_enter Try.func206, Try.ntmps206
  go_wp2
  go_loopw [3, 4] (fun v i wr => Hid (∃ (k f : Nat) (out : List Int), i = .int .i64 k ∧ k + f = h + 1 ∧ out.length ≤ k ∧ out ++ thF h m f k = R ∧ Bx wr w.heap.size 119 #[.int .i64 (h : Int), .int .i64 m] ∧ wr.ownsRow (w.heap.size + 1) 2 1 v out.length (ints out) ∧ Below w.heap.size w wr)) (fun _ i _ => h + 1 - (intOf i).toNat)
  case atStart => exact hid ⟨0, h + 1, [], rfl, by omega, by simp, hst.out, hX.out, hO.out, (by repeat' (first | exact Below.refl _ _ | (with_reducible assumption) | (with_reducible refine Below.alloc ?_ ?_ _) | (with_reducible refine Below.setCell ?_ ?_ _) | (with_reducible refine Below.drew ?_) | (with_reducible refine below_drewN ?_ _) | (refine Below.trans ?_ (Below.mono (by assumption) ?_)) | (with_reducible exact Nat.le_refl _) | (with_reducible assumption) | (exact Below.size (by assumption)) | omega | go_size | (simp at *; omega)))⟩
  case round =>
    clear hst hX hO
    obtain ⟨k, f, out, rfl, hkf, hol, he, hbx, ho, hb0⟩ := hrel.out
    clear hrel
    have q0 : wr.cell? ⟨w.heap.size, 0, none⟩ = some (.int .i64 (h : Int)) := hbx.cell 0
    have q1 : wr.cell? ⟨w.heap.size, 1, none⟩ = some (.int .i64 m) := hbx.cell 1
    have hz := hbx.lt
    by_cases hlt : k ≤ h
    · obtain ⟨f, rfl⟩ : ∃ f', f = f' + 1 := ⟨f - 1, by omega⟩
      have hlt2 : (k : Int) ≤ (h : Int) := by omega
      have hC := hid (l08Can_any (h : Int) m (k : Int) wr (by omega))
      cases hc : canB (h : Int) m (k : Int) with
      | true =>
        rw [thF_yes hc] at he
        have HE : Hid ((out ++ [(k : Int)]) ++ thF h m f ((k : Int) + 1) = R) := by show _ = _; rw [← he]; simp
        rw [hc] at hC
        have HBX := hid hbx
        have HO := hid ho
        clear he hc hbx ho
        go_wp2_with fail
        refine hC.out.mono ?_
        rintro e w1 ⟨rfl, hb1⟩
        have z1 := hb1.size
        have ho1 := own_below HO.out hb1
        have hbx1 := HBX.out.below hb1 HBX.out.lt
        have hB1 := bchain hb0 hb1
        clear hC HO HBX hb1 q0 q1
        go_wp2_with (at_builtin; refine push_int ho1 (k : Int) _ Try.underlying43 inf_int rfl rfl _ _ rfl rfl rfl (by omega) (by omega) ?_; intro v2 w2 ho2 hb2 hg2)
        go_roundw
        case rel => exact hid ⟨k + 1, f, out ++ [(k : Int)], by go_num, by omega, by rw [List.length_append, List.length_singleton]; omega, HE.out, hbx1.below hb2 (by omega), ho2, hB1.trans (hb2.mono (by omega))⟩
        case measure => simp [intOf]; omega
      | false =>
        rw [thF_not hc] at he
        have HE : Hid (out ++ thF h m f ((k : Int) + 1) = R) := he
        rw [hc] at hC
        have HBX := hid hbx
        have HO := hid ho
        clear he hc hbx ho
        go_wp2_with fail
        refine hC.out.mono ?_
        rintro e w1 ⟨rfl, hb1⟩
        have z1 := hb1.size
        have ho1 := own_below HO.out hb1
        have hbx1 := HBX.out.below hb1 HBX.out.lt
        have hB1 := bchain hb0 hb1
        clear hC HO HBX hb1 q0 q1
        go_wp2
        go_roundw
        case rel => exact hid ⟨k + 1, f, out, by go_num, by omega, by omega, HE.out, hbx1, ho1, hB1⟩
        case measure => simp [intOf]; omega
    · obtain rfl : f = 0 := by omega
      have hlt2 : ¬ (k : Int) ≤ (h : Int) := by omega
      rw [thF, List.append_nil] at he
      subst he
      have HO := hid (own_more ho (Nat.le_succ _))
      clear ho hbx
      go_wp2
      go_ret
      exact ⟨_, rfl, HO.out, hb0⟩
end Go.Proofs.Ytlbhfjbbkkkldaa

/- Plain: the arcs of the graph, so far listed. -/
namespace Go.Proofs.Ytlbhfjbbkkkldaa
open Go.RowKit
set_option linter.unusedVariables false

theorem ms_inj {ms : List Int} (hp : ms.Pairwise (· < ·)) {i j : Nat} {m : Int} (hi : ms[i]? = some m) (hj : ms[j]? = some m) : i = j := by
  rcases Nat.lt_trichotomy i j with hlt | heq | hgt
  · have := rise_lt hp hi hj hlt; omega
  · exact heq
  · have := rise_lt hp hj hi hgt; omega
/-- The arcs of the first i states, and the first k of the next. -/
def ArcP (ms : List Int) (h : Nat) (ar : List Arc3) (i k : Nat) : Prop :=
  (∀ a ∈ ar, ∃ (i j : Nat) (t : Int), a = ((i : Int), t, (j : Int)) ∧ isArc ms h i t j) ∧ (∀ (i' j : Nat) (t : Int), isArc ms h i' t j → i' < i → ((i' : Int), t, (j : Int)) ∈ ar) ∧
  (∀ (j : Nat) (t m : Int), ms[i]? = some m → isArc ms h i t j → t ∈ (thF h m (h + 1) 0).take k → ((i : Int), t, (j : Int)) ∈ ar)
/-- All arcs. -/
def ArcAll (ms : List Int) (h : Nat) (ar : List Arc3) : Prop :=
  (∀ a ∈ ar, ∃ (i j : Nat) (t : Int), a = ((i : Int), t, (j : Int)) ∧ isArc ms h i t j) ∧ (∀ (i j : Nat) (t : Int), isArc ms h i t j → ((i : Int), t, (j : Int)) ∈ ar)
section
variable {ms : List Int} {h : Nat} {ar : List Arc3} {i k : Nat}
theorem ArcP.nil (ms : List Int) (h : Nat) : ArcP ms h [] 0 0 := ⟨fun a ha => by simp at ha, fun i' j t _ hi => by omega, fun j t m _ _ ht => by simp at ht⟩
theorem ArcP.push {j : Nat} {t m : Int} (hp : ms.Pairwise (· < ·)) (g : ArcP ms h ar i k) (hm : ms[i]? = some m) (ht : (thF h m (h + 1) 0)[k]? = some t) (hj : ms[j]? = some (nextM m t)) : ArcP ms h (ar ++ [((i : Int), t, (j : Int))]) i (k + 1) := by
  obtain ⟨g1, g2, g3⟩ := g
  have hmem := thF_mem.1 (List.mem_of_getElem? ht)
  refine ⟨fun a ha => ?_, fun i' j' t' ha hi => List.mem_append_left _ (g2 i' j' t' ha hi), fun j' t' m' hm' ha ht' => ?_⟩
  · rcases List.mem_append.1 ha with ha | ha
    · exact g1 a ha
    · obtain rfl := List.mem_singleton.1 ha
      exact ⟨i, j, t, rfl, m, hm, hmem.1, by omega, hmem.2.2, hj⟩
  · rw [hm] at hm'; injection hm' with hm'; subst hm'
    rw [List.take_add_one, ht] at ht'
    rcases List.mem_append.1 ht' with ht' | ht'
    · exact List.mem_append_left _ (g3 j' t' m hm ha ht')
    · obtain rfl : t' = t := by simpa using ht'
      obtain ⟨m2, e1, _, _, _, e5⟩ := ha
      rw [hm] at e1; injection e1 with e1; subst e1
      obtain rfl := ms_inj hp hj e5
      exact List.mem_append_right _ (List.mem_singleton.2 rfl)
theorem ArcP.next {m : Int} (g : ArcP ms h ar i k) (hm : ms[i]? = some m) (hk : (thF h m (h + 1) 0).length ≤ k) : ArcP ms h ar (i + 1) 0 := by
  obtain ⟨g1, g2, g3⟩ := g
  refine ⟨g1, fun i' j t ha hi => ?_, fun j t m' _ _ ht => by simp at ht⟩
  rcases Nat.lt_or_ge i' i with hlt | hge
  · exact g2 i' j t ha hlt
  · obtain rfl : i' = i := by omega
    refine g3 j t m hm ha ?_
    rw [List.take_of_length_le hk]
    obtain ⟨m2, e1, e2, e3, e4, _⟩ := ha
    rw [hm] at e1; injection e1 with e1; subst e1
    exact thF_mem.2 ⟨e2, by omega, e4⟩
theorem ArcP.done (g : ArcP ms h ar i 0) (hi : ms.length ≤ i) : ArcAll ms h ar := by
  obtain ⟨g1, g2, g3⟩ := g
  refine ⟨g1, fun i' j t ha => g2 i' j t ha ?_⟩
  obtain ⟨m, e, _⟩ := ha
  have := (List.getElem?_eq_some_iff.1 e).1
  omega
end
/-- The arcs turned round. -/
def turned (ar : List Arc3) : List Arc3 := ar.map fun a => (a.2.2, 0, a.1)
def pairs (ar : List Arc3) : List (Nat × Nat) := ar.map fun a => (a.1.toNat, a.2.2.toNat)
theorem turned_len (ar : List Arc3) : (turned ar).length = ar.length := by simp [turned]
theorem turned_step {ar : List Arc3} {k : Nat} {x : Arc3} (h : ar[k]? = some x) : (turned ar).take (k + 1) = (turned ar).take k ++ [(x.2.2, 0, x.1)] := by
  rw [List.take_add_one, turned, List.getElem?_map, h]; rfl
theorem ArcAll.back {ms : List Int} {h : Nat} {ar : List Arc3} (g : ArcAll ms h ar) : BackOk ms h (pairs (turned ar)) := by
  have e : pairs (turned ar) = ar.map fun a => (a.2.2.toNat, a.1.toNat) := by simp [pairs, turned]
  rw [e]
  constructor
  · intro u v hm
    obtain ⟨a, ha, ea⟩ := List.mem_map.1 hm
    obtain ⟨i, j, t, rfl, hA⟩ := g.1 a ha
    simp only [Int.toNat_natCast, Prod.mk.injEq] at ea
    obtain ⟨rfl, rfl⟩ := ea
    exact ⟨t, hA⟩
  · intro u v t hA
    exact List.mem_map.2 ⟨_, g.2 v u t hA, by simp⟩
/-- Arcs between n places. -/
def ArcIn (n : Nat) (ar : List Arc3) : Prop := ∀ a ∈ ar, ∃ i j : Nat, a.1 = (i : Int) ∧ a.2.2 = (j : Int) ∧ i < n ∧ j < n
theorem ArcAll.turned_in {ms : List Int} {h : Nat} {ar : List Arc3} (g : ArcAll ms h ar) : ArcIn ms.length (turned ar) := by
  intro a ha
  obtain ⟨b, hb, rfl⟩ := List.mem_map.1 ha
  obtain ⟨i, j, t, rfl, m, e1, _, _, _, e5⟩ := g.1 b hb
  exact ⟨j, i, rfl, rfl, (List.getElem?_eq_some_iff.1 e5).1, (List.getElem?_eq_some_iff.1 e1).1⟩
/-- The rows of the followers, ar far ar the arcs have been looked at. -/
def RowsP (n : Nat) (ar : List Arc3) (rows : List (List Int)) (i : Nat) : Prop := rows.length = n ∧ RowsOk (pairs (ar.take i)) rows ∧ tot rows = i
theorem tot_set : ∀ {rows : List (List Int)} {u : Nat} {r r' : List Int}, rows[u]? = some r → r'.length = r.length + 1 → tot (rows.set u r') = tot rows + 1
  | [], u, r, r', h, _ => by simp at h
  | x :: rows, 0, r, r', h, hl => by
    obtain rfl : x = r := by simpa using h
    show r'.length + tot rows = x.length + tot rows + 1
    omega
  | x :: rows, u + 1, r, r', h, hl => by
    have := tot_set (rows := rows) (u := u) (r := r) (r' := r') (by simpa using h) hl
    show x.length + tot (rows.set u r') = x.length + tot rows + 1
    omega
theorem tot_rep (n : Nat) : tot (List.replicate n ([] : List Int)) = 0 := by
  induction n with
  | zero => rfl
  | succ n ih => rw [List.replicate_succ]; show 0 + tot _ = 0; omega
theorem row_le_tot : ∀ {rows : List (List Int)} {u : Nat} {r : List Int}, rows[u]? = some r → r.length ≤ tot rows
  | [], u, r, h => by simp at h
  | x :: rows, 0, r, h => by
    obtain rfl : x = r := by simpa using h
    show x.length ≤ x.length + tot rows
    omega
  | x :: rows, u + 1, r, h => by
    have := row_le_tot (rows := rows) (u := u) (r := r) (by simpa using h)
    show r.length ≤ x.length + tot rows
    omega
theorem RowsP.start (n : Nat) (ar : List Arc3) : RowsP n ar (List.replicate n []) 0 := by
  refine ⟨by simp, ⟨fun u r v hu hv => ?_, fun u v h => by simp [pairs] at h⟩, tot_rep n⟩
  rw [List.getElem?_replicate] at hu
  split at hu
  · injection hu with hu; subst hu; simp at hv
  · cases hu
theorem RowsP.push {n i : Nat} {ar : List Arc3} {rows : List (List Int)} {x : Arc3} {r : List Int} (g : RowsP n ar rows i) (hin : ArcIn n ar) (hx : ar[i]? = some x) (hr : rows[x.1.toNat]? = some r) : RowsP n ar (rows.set x.1.toNat (r ++ [x.2.2])) (i + 1) := by
  obtain ⟨g1, ⟨g2, g3⟩, g4⟩ := g
  obtain ⟨a, b, ea, eb, ha, hb⟩ := hin x (List.mem_of_getElem? hx)
  obtain ⟨x1, x2, x3⟩ := x
  simp only at ea eb hr ⊢
  subst ea eb
  rw [Int.toNat_natCast] at hr ⊢
  have hpair : pairs (ar.take (i + 1)) = pairs (ar.take i) ++ [(a, b)] := by
    rw [List.take_add_one, hx, pairs, List.map_append]; simp [pairs]
  have hal : a < rows.length := (List.getElem?_eq_some_iff.1 hr).1
  refine ⟨by rw [List.length_set]; exact g1, ⟨fun u r' v hu hv => ?_, fun u v h => ?_⟩, by rw [tot_set hr (by simp), g4]⟩
  · rw [hpair]
    by_cases hau : a = u
    · subst hau
      rw [List.getElem?_set_self hal] at hu
      injection hu with hu; subst hu
      rcases List.mem_append.1 hv with hv | hv
      · obtain ⟨V, e, hm⟩ := g2 a r v hr hv
        exact ⟨V, e, List.mem_append_left _ hm⟩
      · exact ⟨b, List.mem_singleton.1 hv, List.mem_append_right _ (List.mem_singleton.2 rfl)⟩
    · rw [List.getElem?_set_ne hau] at hu
      obtain ⟨V, e, hm⟩ := g2 u r' v hu hv
      exact ⟨V, e, List.mem_append_left _ hm⟩
  · rw [hpair] at h
    by_cases hau : a = u
    · subst hau
      refine ⟨r ++ [(b : Int)], List.getElem?_set_self hal, ?_⟩
      rcases List.mem_append.1 h with h | h
      · obtain ⟨r2, e, hm⟩ := g3 a v h
        rw [hr] at e; injection e with e; subst e
        exact List.mem_append_left _ hm
      · have := List.mem_singleton.1 h
        injection this with _ e
        subst e
        exact List.mem_append_right _ (List.mem_singleton.2 rfl)
    · rcases List.mem_append.1 h with h | h
      · obtain ⟨r2, e, hm⟩ := g3 u v h
        exact ⟨r2, by rw [List.getElem?_set_ne hau]; exact e, hm⟩
      · have := List.mem_singleton.1 h
        injection this with e _
        exact absurd e.symm hau
theorem RowsP.all {n : Nat} {ar : List Arc3} {rows : List (List Int)} {i : Nat} (g : RowsP n ar rows i) (hi : ar.length ≤ i) : RowsOk (pairs ar) rows := by
  have := g.2.1
  rw [List.take_of_length_le hi] at this; exact this
/-- The numbers in the rows are places. -/
theorem RowsP.place {n i : Nat} {ar : List Arc3} {rows : List (List Int)} (g : RowsP n ar rows i) (hin : ArcIn n ar) {u : Nat} {r : List Int} {v : Int} (hu : rows[u]? = some r) (hv : v ∈ r) : ∃ V : Nat, v = (V : Int) ∧ V < n := by
  obtain ⟨V, e, hm⟩ := g.2.1.1 u r v hu hv
  obtain ⟨a, ha, ea⟩ := List.mem_map.1 hm
  obtain ⟨x, y, _, e2, _, hy⟩ := hin a (List.mem_of_mem_take ha)
  refine ⟨V, e, ?_⟩
  injection ea with _ ea
  rw [e2, Int.toNat_natCast] at ea
  omega
end Go.Proofs.Ytlbhfjbbkkkldaa
