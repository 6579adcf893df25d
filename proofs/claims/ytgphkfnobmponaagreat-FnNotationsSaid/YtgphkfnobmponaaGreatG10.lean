/- Several texts in one: Hx, Me, Mi, Sp. -/
import Derived.Test.YtgphkfnobmponaaGreatG01
import Derived.Test.YtgphkfnobmponaaGreatG09
import Derived.Test.YtgphkfnobmponaaGreatG04
import Derived.Deep.RegionHeld3
import Derived.Test.YtgphkfnobmponaaGreatG08
import Derived.Test.YtgphkfnobmponaaGreatDw
import Derived.Test.YtgphkfnobmponaaGreatG05
import Derived.Deep.QuietTactic
import Derived.BigQuiet
import Derived.Deep.RegionWith
/- Characters of throws: plain facts, and the contracts of l04Digit and l04Value. -/
namespace Go.Proofs.YtgphkfnobmponaaGreat
open Go.RowKit
set_option linter.unusedVariables false

/-- The byte of a throw. -/
def hexU (v : Int) : UInt8 := UInt8.ofNat (hexB v).toNat
theorem hexU_nat {v : Int} (h0 : 0 ≤ v) (h1 : v ≤ 15) : ((hexU v).toNat : Int) = hexB v := by
  obtain ⟨y0, y1⟩ := hexB_bd h0 h1
  unfold hexU
  rw [UInt8.toNat_ofNat', Nat.mod_eq_of_lt (by omega), Int.toNat_of_nonneg y0]
theorem hexU_ne {v : Int} {c : UInt8} (h0 : 0 ≤ v) (h1 : v ≤ 15) (hc : rDig (c.toNat : Int) = -1) : hexU v ≠ c := by
  intro e
  have h := rDig_hexB h0 h1
  rw [← hexU_nat h0 h1, e, hc] at h
  omega
theorem rDig_hexU {v : Int} (h0 : 0 ≤ v) (h1 : v ≤ 15) : rDig ((hexU v).toNat : Int) = v := by rw [hexU_nat h0 h1]; exact rDig_hexB h0 h1
theorem hexS_ext {n : Nat} (h : n < 16) : ({ data := #[48, 49, 50, 51, 52, 53, 54, 55, 56, 57, 97, 98, 99, 100, 101, 102] } : ByteArray).extract n (n + 1) = st [hexU (n : Int)] := by
  have hn : n < hexS.size := by rw [hexS_size]; exact h
  have h1 := hexS_at ⟨n, h⟩
  have h2 : hexS[n]'hn = hexU (n : Int) := by
    refine UInt8.toNat_inj.1 ?_
    have h3 := hexU_nat (v := (n : Int)) (by omega) (by omega)
    have h1 : ((hexS[n]'hn).toNat : Int) = hexB (n : Int) := h1
    omega
  have h4 := one_at hexS n hn
  rw [h2] at h4
  exact h4
theorem ret_str {a b : ByteArray} (h : a = b) : Ending.returned (.string a) = .returned (.string b) := by rw [h]
theorem l04Digit_any (x : Int) (w : World) (x0 : 0 ≤ x) (x1 : x ≤ 15) :
    Calls Tryz.prog 121 #[.int .i64 x] w fun e w' => e = .returned (.string (st [hexU x])) ∧ w = w' := by
  obtain ⟨n, rfl⟩ := Int.eq_ofNat_of_zero_le x0
  have he := hexS_ext (n := n) (by omega)
  have h1 : (n : Int) ≤ (n : Int) + 1 := by omega
  have h2 : (n : Int) + 1 ≤ 16 := by omega
  have hz : ({ data := #[48, 49, 50, 51, 52, 53, 54, 55, 56, 57, 97, 98, 99, 100, 101, 102] } : ByteArray).size = 16 := rfl
  go_enter Tryz.func121, Tryz.ntmps121
  go_wp2
  go_ret
  exact ⟨rfl, rfl⟩
theorem l04Value_any (c : Int) (c0 : 0 ≤ c) (c1 : c ≤ 255) (w : World) : Calls Tryz.prog 72 #[.int .u8 c] w fun e w' => e = .returned (.int .i64 (rDig c)) ∧ w = w' := by
  by_cases h1 : 48 ≤ c
  · by_cases h2 : c ≤ 57
    · have hd : Hid (rDig c = c - 48) := by show _ = _; simp [rDig, h1, h2]
      go_enter Tryz.func72, Tryz.ntmps72
      go_wp2
      go_ret
      exact ⟨ret_int hd.out.symm, rfl⟩
    · by_cases h3 : 97 ≤ c
      · by_cases h4 : c ≤ 102
        · have hd : Hid (rDig c = c - 87) := by show _ = _; simp [rDig, h2, h3, h4]
          go_enter Tryz.func72, Tryz.ntmps72
          go_wp2
          go_ret
          exact ⟨ret_int (by rw [hd.out]; omega), rfl⟩
        · have hd : Hid (rDig c = -1) := by show _ = _; simp [rDig, h2, h4]
          go_enter Tryz.func72, Tryz.ntmps72
          go_wp2
          go_ret
          exact ⟨ret_int hd.out.symm, rfl⟩
      · have hd : Hid (rDig c = -1) := by show _ = _; simp [rDig, h2, h3]
        go_enter Tryz.func72, Tryz.ntmps72
        go_wp2
        go_ret
        exact ⟨ret_int hd.out.symm, rfl⟩
  · have h3 : ¬ 97 ≤ c := by omega
    have hd : Hid (rDig c = -1) := by show _ = _; simp [rDig, h1, h3]
    go_enter Tryz.func72, Tryz.ntmps72
    go_wp2
    go_ret
    exact ⟨ret_int hd.out.symm, rfl⟩
theorem tl_one {s : ByteArray} (h : s.size = 1) : tl s = [s[0]'(by omega)] := by
  have := tl_drop s 0 (by omega)
  rw [List.drop_zero] at this
  rw [this, List.drop_eq_nil_of_le (by rw [tl_len]; omega)]
theorem tl_two {s : ByteArray} (h : s.size = 2) : tl s = [s[0]'(by omega), s[1]'(by omega)] := by
  have h0 := tl_drop s 0 (by omega)
  have h1 := tl_drop s 1 (by omega)
  rw [List.drop_zero] at h0
  rw [h0, h1, List.drop_eq_nil_of_le (by rw [tl_len]; omega)]
theorem one_first {s sub : ByteArray} {x : UInt8} {r : List UInt8} (hx : tl s = x :: r) (hsub : s.extract 0 1 = sub) (hz : sub.size = 1) : sub[0]'(by omega) = x := by
  have h := tl_one hz
  have h1 : tl sub = [x] := by rw [← hsub, tl_extract, hx]; rfl
  rw [h1] at h
  injection h with h _
  exact h.symm
end Go.Proofs.YtgphkfnobmponaaGreat

/- Drawn rows of rows of numbers: read only, their blocks between two bounds; made from a grid, from a grid with one row stored anew, cut to a prefix. -/
namespace Go.Proofs.YtgphkfnobmponaaGreat
open Go.RowKit
set_option linter.unusedVariables false

/-- Cells that are read: their block lies from C on and below B. -/
def RdL (w : World) (C B : Nat) (A : Option Addr) (n : Nat) (us : List Value) : Prop :=
  us.length = n ∧ (0 < n → ∃ b off, A = some ⟨b, off, none⟩ ∧ C ≤ b ∧ b < B ∧ ∀ (j : Nat) (u : Value), us[j]? = some u → w.cell? ⟨b, off + j, none⟩ = some u)
section
variable {w w' : World} {C C' B B' n : Nat} {A : Option Addr} {us : List Value}
theorem RdL.rd (h : RdL w C B A n us) : Rd w B 1 A n us :=
  ⟨by rw [Nat.mul_one]; exact h.1, fun hn => by
    obtain ⟨b, off, e, _, hb, hc⟩ := h.2 hn
    exact ⟨b, off, e, hb, hc⟩⟩
theorem RdL.keep (h : RdL w C B A n us) (hk : ∀ p : Addr, C ≤ p.block → p.block < B → w'.cell? p = w.cell? p) : RdL w' C B A n us :=
  ⟨h.1, fun hn => by
    obtain ⟨b, off, e, h0, hb, hc⟩ := h.2 hn
    exact ⟨b, off, e, h0, hb, fun j u hu => (hk _ h0 hb).trans (hc j u hu)⟩⟩
theorem RdL.more (h : RdL w C B A n us) (hC : C' ≤ C) (hB : B ≤ B') : RdL w C' B' A n us :=
  ⟨h.1, fun hn => by
    obtain ⟨b, off, e, h0, hb, hc⟩ := h.2 hn
    exact ⟨b, off, e, Nat.le_trans hC h0, Nat.lt_of_lt_of_le hb hB, hc⟩⟩
theorem RdL.nil (w : World) (C B : Nat) : RdL w C B none 0 [] := ⟨rfl, fun h => absurd h (by omega)⟩
theorem RdL.of_own {base c : Nat} {e : TypeId} (h : w.ownsRow base e 1 (.slice A n c) n us) : RdL w base w.heap.size A n us := by
  refine ⟨by have := h.1; simpa using this, fun hn => ?_⟩
  obtain ⟨b, off, e1, hb, hc⟩ := (Rd.of_own h).2 hn
  refine ⟨b, off, e1, ?_, hb, hc⟩
  obtain ⟨g, c', e2, hge, _⟩ := own_block h hn
  injection e2 with e2 _ _
  rw [e1] at e2
  injection e2 with e2
  injection e2 with e2 _ _
  omega
end
/-- Rows of numbers that are read: all blocks lie from C on and below B. -/
def RdH (w : World) (C B : Nat) (A : Option Addr) (n : Nat) (rows : List (List Int)) : Prop :=
  rows.length = n ∧ (0 < n → ∃ b off, A = some ⟨b, off, none⟩ ∧ C ≤ b ∧ b < B ∧ ∀ (j : Nat) (row : List Int), rows[j]? = some row → ∃ Aj cj, w.cell? ⟨b, off + j, none⟩ = some (.slice Aj row.length cj) ∧ RdL w C B Aj row.length (ints row))
section
variable {w w' : World} {C C' B B' n : Nat} {A : Option Addr} {rows : List (List Int)}
theorem RdH.len (h : RdH w C B A n rows) : rows.length = n := h.1
theorem RdH.rd (h : RdH w C B A n rows) : RdG w B A n rows :=
  ⟨h.1, fun hn => by
    obtain ⟨b, off, e, _, hb, hc⟩ := h.2 hn
    exact ⟨b, off, e, hb, fun j row hj => by
      obtain ⟨Aj, cj, h1, h2⟩ := hc j row hj
      exact ⟨Aj, cj, h1, h2.rd⟩⟩⟩
theorem RdH.keep (h : RdH w C B A n rows) (hk : ∀ p : Addr, C ≤ p.block → p.block < B → w'.cell? p = w.cell? p) : RdH w' C B A n rows :=
  ⟨h.1, fun hn => by
    obtain ⟨b, off, e, h0, hb, hc⟩ := h.2 hn
    exact ⟨b, off, e, h0, hb, fun j row hj => by
      obtain ⟨Aj, cj, h1, h2⟩ := hc j row hj
      exact ⟨Aj, cj, (hk _ h0 hb).trans h1, h2.keep hk⟩⟩⟩
theorem RdH.more (h : RdH w C B A n rows) (hC : C' ≤ C) (hB : B ≤ B') : RdH w C' B' A n rows :=
  ⟨h.1, fun hn => by
    obtain ⟨b, off, e, h0, hb, hc⟩ := h.2 hn
    exact ⟨b, off, e, Nat.le_trans hC h0, Nat.lt_of_lt_of_le hb hB, fun j row hj => by
      obtain ⟨Aj, cj, h1, h2⟩ := hc j row hj
      exact ⟨Aj, cj, h1, h2.more hC hB⟩⟩⟩
theorem RdH.below {D : Nat} (h : RdH w C B A n rows) (hb : Below D w w') (hB : B ≤ D) : RdH w' C B A n rows := h.keep fun _ _ hp => hb.cell (Nat.lt_of_lt_of_le hp hB)
/-- A source below all rows is asked: the rows stay. -/
theorem RdH.grown {g : Nat} (h : RdH w C B A n rows) (hg : w.grownBy w' (some g)) (hC : g < C) (hB : B ≤ w.heap.size) : RdH w' C B A n rows :=
  h.keep fun p h0 hp => by
    have := hg.block p.block (by omega) (by intro e; injection e with e; omega)
    unfold World.cell?
    rw [this]
theorem RdH.setCell (h : RdH w C B A n rows) {p : Addr} (hp : p.block < C ∨ B ≤ p.block) (u : Value) : RdH (w.setCell p u) C B A n rows :=
  h.keep fun q h0 hq => by
    rcases hp with hp | hp
    · unfold World.cell?
      rw [Below.heap_setCell w p u q.block (by omega)]
    · exact (Below.setCell (Below.refl B w) hp u).cell hq
/-- A prefix. -/
theorem RdH.cut {k : Nat} (h : RdH w C B A n rows) (hk : k ≤ n) : RdH w C B A k (rows.take k) :=
  ⟨by rw [List.length_take, h.1]; omega, fun h0 => by
    obtain ⟨b, off, e, h1, hb, hc⟩ := h.2 (by omega)
    exact ⟨b, off, e, h1, hb, fun j row hj => hc j row (by
      rw [List.getElem?_take] at hj
      split at hj
      · exact hj
      · cases hj)⟩⟩
end
/-- One row of a grid, and what is read where it is stored anew. -/
theorem Grid.put {w : World} {base M i n c : Nat} {A : Option Addr} {rows : List (List Int)} {row : List Int} (h : Grid w base M (.slice A n c) rows) (hi : rows[i]? = some row) :
    ∃ b Ai ci, A = some ⟨b, 0, none⟩ ∧ base ≤ b ∧ b < w.heap.size ∧ n = rows.length ∧ w.cell? ⟨b, i, none⟩ = some (.slice Ai row.length ci) ∧ w.ownsRow base 2 1 (.slice Ai row.length ci) row.length (ints row) ∧
      ∀ w' A' row' c', w.grownBy w' (Value.slice Ai row.length ci).ownBlock → w'.ownsRow base 2 1 (.slice A' row'.length c') row'.length (ints row') → w'.cell? ⟨b, i, none⟩ = some (.slice Ai row.length ci) ∧ w'.frozen? ⟨b, i, none⟩ = false ∧ RdH (w'.setCell ⟨b, i, none⟩ (.slice A' row'.length c')) base w'.heap.size A n (rows.set i row') := by
  obtain ⟨vs, h1, h2, h3, h4⟩ := h
  have hil : i < rows.length := (List.getElem?_eq_some_iff.1 hi).1
  have hu : vs[i]? = some (vs[i]'(by omega)) := List.getElem?_eq_getElem (by omega)
  generalize vs[i]'(by omega) = u at hu
  obtain ⟨ho, hlt⟩ := h3 i u row hu hi
  obtain ⟨Ai, ci, rfl⟩ := own_form ho
  obtain ⟨g, cap, e, hge, hgl⟩ := own_block h2 (by omega)
  injection e with eA en ec
  subst eA en ec
  refine ⟨g, Ai, ci, rfl, hge, hgl, rfl, (h2.cellAt i (by omega)).trans hu, ho, fun w' A' row' c' hgr ho' => ?_⟩
  have k2 := own_types h2 ho (by decide) hgr
  have kc := fun j hj => k2.cellAt j hj
  obtain ⟨k3, g3⟩ := k2.stored i (.slice A' row'.length c')
  refine ⟨(kc i (by omega)).trans hu, k2.frozenAt i, by rw [List.length_set], fun _ => ⟨g, 0, rfl, hge, (k2.lt g rfl).2, fun j r hj => ?_⟩⟩
  have hjl : j < rows.length := by have := (List.getElem?_eq_some_iff.1 hj).1; rwa [List.length_set] at this
  have ot : ∀ {v2 : Value} {n2 : Nat} {xs2 : List Value}, w'.ownsRow base 2 1 v2 n2 xs2 → (w'.setCell ⟨g, i, none⟩ (.slice A' row'.length c')).ownsRow base 2 1 v2 n2 xs2 := fun h => own_types h k2 (by decide) g3
  have hz : (w'.setCell ⟨g, i, none⟩ (.slice A' row'.length c')).heap.size = w'.heap.size := by simp
  by_cases hij : i = j
  · subst hij
    rw [List.getElem?_set_self hil] at hj
    obtain rfl : row' = r := Option.some.inj hj
    refine ⟨A', c', ?_, ?_⟩
    · rw [Nat.zero_add, k3.cellAt i (by omega), List.getElem?_set_self (by omega)]
    · have := RdL.of_own (ot ho')
      rw [hz] at this
      exact this
  · rw [List.getElem?_set_ne hij] at hj
    have hx : vs[j]? = some (vs[j]'(by omega)) := List.getElem?_eq_getElem (by omega)
    generalize vs[j]'(by omega) = x at hx
    have hox := (h3 j x r hx hj).1
    obtain ⟨Aj, cj, rfl⟩ := own_form hox
    have hkx : w'.ownsRow base 2 1 (.slice Aj r.length cj) r.length (ints r) := hox.kept hgr (by
      cases hb : (Value.slice Aj r.length cj).ownBlock with
      | none => exact .inl rfl
      | some q =>
        refine .inr fun e => ?_
        obtain ⟨hj2, ej⟩ := List.getElem?_eq_some_iff.1 hx
        obtain ⟨hi2, ei⟩ := List.getElem?_eq_some_iff.1 hu
        rcases Nat.lt_or_gt_of_ne hij with k | k
        · have := List.pairwise_iff_getElem.1 h4 i j hi2 hj2 k
          rw [ei, ej] at this
          have := this q q e.symm hb
          omega
        · have := List.pairwise_iff_getElem.1 h4 j i hj2 hi2 k
          rw [ei, ej] at this
          have := this q q hb e.symm
          omega)
    refine ⟨Aj, cj, ?_, ?_⟩
    · rw [Nat.zero_add, k3.cellAt j (by omega), List.getElem?_set_ne hij]; exact hx
    · have := RdL.of_own (ot hkx)
      rw [hz] at this
      exact this
end Go.Proofs.YtgphkfnobmponaaGreat

/- Contracts that compare multiplex patterns: l00Same, sameNumbers, SameMulti (both). -/
namespace Go.Proofs.YtgphkfnobmponaaGreat
open Go.RowKit
set_option linter.unusedVariables false

theorem l00Same_any (A A' : Option Addr) (n n' c c' : Nat) (xs ys : List Int) (w : World) (hn : n ≤ 1099511627776) (hn' : n' ≤ 1099511627776) (h : Rd w w.heap.size 1 A n (ints xs)) (h' : Rd w w.heap.size 1 A' n' (ints ys)) :
    Calls Tryz.prog 50 #[.slice A n c, .slice A' n' c'] w fun e w' => e = .returned (.bool (decide (xs = ys))) ∧ Below w.heap.size w w' := by
  have hl := h.len
  have hl' := h'.len
  by_cases hnn : n = n'
  · subst hnn
    have hst : Hid (decide (xs.drop 0 = ys.drop 0) = decide (xs = ys)) := rfl
    go_enter Tryz.func50, Tryz.ntmps50
    go_wp2
    go_loopw [5] (fun i wr => ∃ k : Nat, k ≤ n ∧ i = .int .i64 k ∧ Hid (decide (xs.drop k = ys.drop k) = decide (xs = ys)) ∧ Below w.heap.size w wr) (fun i _ => n - (intOf i).toNat)
    case atStart => exact ⟨0, Nat.zero_le _, rfl, hst, Below.refl _ _⟩
    case round =>
    obtain ⟨k, hk, rfl, he, hb0⟩ := hrel
    by_cases hlt : k < n
    · obtain ⟨b, off, x, rfl, hb, hx, hd, hc⟩ := (h.below hb0 (Nat.le_refl _)).at_ hlt
      obtain ⟨b', off', x', rfl, hb', hx', hd', hc'⟩ := (h'.below hb0 (Nat.le_refl _)).at_ hlt
      by_cases hxx : x = x'
      · have hq : (x != x') = false := by simp [hxx]
        have HZ : Hid (decide (xs.drop (k + 1) = ys.drop (k + 1)) = decide (xs = ys)) := by
          show _ = _
          rw [← he.out, hd, hd', hxx]; simp
        clear hx hx' hd hd' he hst h h' hb hb' hl hl' hxx
        go_wp2
        go_quiet (fail)
        go_wp2
        go_roundw
        case rel => exact ⟨k + 1, by omega, by go_num, HZ, (by repeat' (first | exact Below.refl _ _ | (with_reducible first | assumption | exact Nat.le_refl _ | refine Below.alloc ?_ ?_ _ | refine Below.setCell ?_ ?_ _ | refine Below.drew ?_ | refine below_drewN ?_ _) | refine Below.trans ?_ (Below.mono (by assumption) ?_) | exact Below.size (by assumption) | omega | go_size | (simp at *; omega)))⟩
        case measure => simp [intOf]; omega
      · have hq : (x != x') = true := by simpa using hxx
        have HZ : Hid (decide (xs = ys) = false) := by
          show _ = _
          rw [← he.out, hd, hd']; simp [hxx]
        clear hx hx' hd hd' he hst h h' hb hb' hl hl' hxx
        go_wp2
        go_quiet (fail)
        go_wp2
        go_ret
        exact ⟨ret_bool HZ.out.symm, (by repeat' (first | exact Below.refl _ _ | (with_reducible first | assumption | exact Nat.le_refl _ | refine Below.alloc ?_ ?_ _ | refine Below.setCell ?_ ?_ _ | refine Below.drew ?_ | refine below_drewN ?_ _) | refine Below.trans ?_ (Below.mono (by assumption) ?_) | exact Below.size (by assumption) | omega | go_size | (simp at *; omega)))⟩
    · have HZ : Hid (decide (xs = ys) = true) := by
        show _ = _
        rw [← he.out, List.drop_eq_nil_of_le (by omega), List.drop_eq_nil_of_le (by omega)]; rfl
      clear he hst hl hl' h h'
      go_wp2
      go_ret
      exact ⟨ret_bool HZ.out.symm, (by repeat' (first | exact Below.refl _ _ | (with_reducible first | assumption | exact Nat.le_refl _ | refine Below.alloc ?_ ?_ _ | refine Below.setCell ?_ ?_ _ | refine Below.drew ?_ | refine below_drewN ?_ _) | refine Below.trans ?_ (Below.mono (by assumption) ?_) | exact Below.size (by assumption) | omega | go_size | (simp at *; omega)))⟩
  · have HZ : Hid (decide (xs = ys) = false) := by
      show _ = _
      refine decide_eq_false fun e => hnn ?_
      rw [← hl, ← hl', e]
    clear hl hl' h h'
    go_enter Tryz.func50, Tryz.ntmps50
    go_wp2
    go_ret
    exact ⟨ret_bool HZ.out.symm, (by repeat' (first | exact Below.refl _ _ | (with_reducible first | assumption | exact Nat.le_refl _ | refine Below.alloc ?_ ?_ _ | refine Below.setCell ?_ ?_ _ | refine Below.drew ?_ | refine below_drewN ?_ _) | refine Below.trans ?_ (Below.mono (by assumption) ?_) | exact Below.size (by assumption) | omega | go_size | (simp at *; omega)))⟩
set_option maxRecDepth 100000 in
theorem specSameMulti_any (A A' : Option Addr) (n n' c c' : Nat) (rows rows' : List (List Int)) (w : World) (hn : n ≤ 1099511627776) (hn' : n' ≤ 1099511627776) (hl : ∀ r ∈ rows, r.length ≤ 1099511627776) (hl' : ∀ r ∈ rows', r.length ≤ 1099511627776) (h : RdG w w.heap.size A n rows) (h' : RdG w w.heap.size A' n' rows') :
    Calls Tryz.prog 51 #[.agg #[.slice A n c], .agg #[.slice A' n' c']] w fun e w' => e = .returned (.bool (decide (rows = rows'))) ∧ Below w.heap.size w w' := by
  have hl1 := h.len
  have hl2 := h'.len
  obtain ⟨W, hW⟩ : ∃ W, (w.alloc (Obj.cells #[.slice A n c] 27)).alloc (Obj.cells #[.slice A' n' c'] 27) = W := ⟨_, rfl⟩
  have hX : Bx W w.heap.size 27 #[.slice A n c] := by rw [← hW]; exact (Bx.new _ _ _).alloc _
  have hY : Bx W (w.heap.size + 1) 27 #[.slice A' n' c'] := by
    have := Bx.new (w.alloc (Obj.cells #[.slice A n c] 27)) 27 #[.slice A' n' c']
    rw [hW] at this
    simpa using this
  have hB : Below w.heap.size w W := by rw [← hW]; exact (by repeat' (first | exact Below.refl _ _ | (with_reducible first | assumption | exact Nat.le_refl _ | refine Below.alloc ?_ ?_ _ | refine Below.setCell ?_ ?_ _ | refine Below.drew ?_ | refine below_drewN ?_ _) | refine Below.trans ?_ (Below.mono (by assumption) ?_) | exact Below.size (by assumption) | omega | go_size | (simp at *; omega)))
  have HL1 := hid hl
  have HL2 := hid hl'
  by_cases hnn : n = n'
  · subst hnn
    have hst : Hid (decide (rows.drop 0 = rows'.drop 0) = decide (rows = rows')) := rfl
    have HST : Hid (∃ k : Nat, k = 0 ∧ Bx W w.heap.size 27 #[.slice A n c] ∧ Bx W (w.heap.size + 1) 27 #[.slice A' n c'] ∧ Below w.heap.size w W) := ⟨0, rfl, hX, hY, hB⟩
    rw [← hW] at HST
    clear hW hX hY hB hl hl' hl1 hl2 W
    go_enter Tryz.func51, Tryz.ntmps51
    go_wp2
    go_loopw [5] (fun i wr => Hid (∃ k : Nat, k ≤ n ∧ i = .int .i64 k ∧ Hid (decide (rows.drop k = rows'.drop k) = decide (rows = rows')) ∧ Bx wr w.heap.size 27 #[.slice A n c] ∧ Bx wr (w.heap.size + 1) 27 #[.slice A' n c'] ∧ Below w.heap.size w wr)) (fun i _ => n - (intOf i).toNat)
    case atStart =>
      obtain ⟨_, _, h1, h2, h3⟩ := HST.out
      exact hid ⟨0, Nat.zero_le _, rfl, hst, h1, h2, h3⟩
    case round =>
    clear HST
    obtain ⟨k, hk, rfl, he, hX, hY, hb0⟩ := hrel.out
    clear hrel
    have hz := hb0.size
    have hx1 := hX.lt
    have hy1 := hY.lt
    have x0 : wr.cell? ⟨w.heap.size, 0, none⟩ = some (.slice A n c) := hX.cell 0
    have y0 : wr.cell? ⟨w.heap.size + 1, 0, none⟩ = some (.slice A' n c') := hY.cell 0
    by_cases hlt : k < n
    · obtain ⟨b, off, row, Ai, ci, rfl, hb, hx, hd, hc, hrd⟩ := (h.below hb0 (Nat.le_refl _)).at_ hlt
      obtain ⟨b', off', row', Ai', ci', rfl, hb', hx', hd', hc', hrd'⟩ := (h'.below hb0 (Nat.le_refl _)).at_ hlt
      have hr1 := HL1.out row (List.mem_of_getElem? hx)
      have hr2 := HL2.out row' (List.mem_of_getElem? hx')
      have HE := hid (fun (w1 : World) (q : Below wr.heap.size wr w1) => l00Same_any Ai Ai' row.length row'.length ci ci' row row' w1 hr1 hr2 ((hrd.below q hz).more (Nat.le_trans hz q.size)) ((hrd'.below q hz).more (Nat.le_trans hz q.size)))
      by_cases hxx : row = row'
      · have HZ : Hid (decide (rows.drop (k + 1) = rows'.drop (k + 1)) = decide (rows = rows')) := by
          show _ = _
          rw [← he.out, hd, hd', hxx]; simp
        have HT : Hid (decide (row = row') = true) := decide_eq_true hxx
        have HX := hid hX
        have HY := hid hY
        clear hx hx' hd hd' he h h' hb hb' hxx hrd hrd' hst hX hY hr1 hr2
        go_wp2
        go_still_tail 10, (by kernel_rfl)
        change wpList _ _ _ _ _ wr.drew
        have hb1 : Below w.heap.size w wr.drew := hb0.drew
        have hX1 := hid (HX.out.drew)
        have hY1 := hid (HY.out.drew)
        have hq : Below wr.heap.size wr wr.drew := (Below.refl _ _).drew
        have hzz : wr.heap.size = wr.drew.heap.size := rfl
        have HQ := hid hzz
        clear hzz x0 y0 hc hc' HX HY
        generalize wr.drew = w2 at *
        go_wp2_with (go_at_call 50; refine (HE.out _ hq).mono ?_; rw [HT.out]; rintro e w3 ⟨rfl, hb2⟩)
        have hzq := HQ.out
        have hxq : w.heap.size < w2.heap.size := hX1.out.lt
        have hyq : w.heap.size + 1 < w2.heap.size := hY1.out.lt
        go_roundw
        case rel => exact hid ⟨k + 1, by omega, by go_num, HZ, hX1.out.below hb2 hxq, hY1.out.below hb2 hyq, hb1.trans (hb2.mono (by omega))⟩
        case measure => simp [intOf]; omega
      · have HZ : Hid (decide (rows = rows') = false) := by
          show _ = _
          rw [← he.out, hd, hd']; simp [hxx]
        have HT : Hid (decide (row = row') = false) := decide_eq_false hxx
        clear hx hx' hd hd' he h h' hb hb' hxx hrd hrd' hst hX hY hr1 hr2
        go_wp2
        go_still_tail 10, (by kernel_rfl)
        change wpList _ _ _ _ _ wr.drew
        have hb1 : Below w.heap.size w wr.drew := hb0.drew
        have hq : Below wr.heap.size wr wr.drew := (Below.refl _ _).drew
        have hzz : wr.heap.size = wr.drew.heap.size := rfl
        have HQ := hid hzz
        clear hzz x0 y0 hc hc'
        generalize wr.drew = w2 at *
        go_wp2_with (go_at_call 50; refine (HE.out _ hq).mono ?_; rw [HT.out]; rintro e w3 ⟨rfl, hb2⟩)
        go_ret
        exact ⟨ret_bool HZ.out.symm, hb1.trans (hb2.mono (by have := HQ.out; omega))⟩
    · have HZ : Hid (decide (rows = rows') = true) := by
        show _ = _
        have e1 := h.len
        have e2 := h'.len
        rw [← he.out, List.drop_eq_nil_of_le (by omega), List.drop_eq_nil_of_le (by omega)]; rfl
      clear he hst h h' hX hY
      go_wp2
      go_ret
      exact ⟨ret_bool HZ.out.symm, hb0⟩
  · have HZ : Hid (decide (rows = rows') = false) := by
      show _ = _
      refine decide_eq_false fun e => hnn ?_
      rw [← hl1, ← hl2, e]
    clear hl1 hl2 h h' hl hl' hX hY hB hW HL1 HL2 W
    go_enter Tryz.func51, Tryz.ntmps51
    go_wp2
    go_ret
    exact ⟨ret_bool HZ.out.symm, (by repeat' (first | exact Below.refl _ _ | (with_reducible first | assumption | exact Nat.le_refl _ | refine Below.alloc ?_ ?_ _ | refine Below.setCell ?_ ?_ _ | refine Below.drew ?_ | refine below_drewN ?_ _) | refine Below.trans ?_ (Below.mono (by assumption) ?_) | exact Below.size (by assumption) | omega | go_size | (simp at *; omega)))⟩
end Go.Proofs.YtgphkfnobmponaaGreat

/- The contract of the reference's l01Spoil, which spoils a text. -/
namespace Go.Proofs.YtgphkfnobmponaaGreat
open Go.RowKit
set_option linter.unusedVariables false

theorem toList_ne {t : ByteArray} (h : ¬ t.size = 0) : t.toList.isEmpty = false := by
  rw [ByteArray.toList_eq]
  cases e : t.data.toList with
  | nil =>
    exfalso
    have h2 : t.data.toList.length = 0 := by rw [e]; rfl
    rw [Array.length_toList] at h2
    exact h h2
  | cons x xs => rfl
/-- A text that is not long. -/
def StrRes (e : Ending) : Prop := ∃ s : ByteArray, s.size ≤ 1100 ∧ e = .returned (.string s)
theorem seven_any (w : World) (b : Nat) (hb : b = w.heap.size) (t : TypeId) : ∀ i, i < 7 → ∃ y : ByteArray, y.size ≤ 12 ∧ (w.alloc (Obj.cells #[.string ⟨#[32]⟩, .string ⟨#[48]⟩, .string ⟨#[45]⟩, .string ⟨#[120]⟩, .string ⟨#[49]⟩, .string ⟨#[57]⟩, .string ⟨#[46]⟩] t)).cell? ⟨b, 0 + i, none⟩ = some (.string y) := by
  intro i hi
  subst hb
  rw [World.cell?_alloc_at _ _ _ _ rfl]
  match i, hi with
  | 0, _ => refine ⟨_, ?_, rfl⟩; decide
  | 1, _ => refine ⟨_, ?_, rfl⟩; decide
  | 2, _ => refine ⟨_, ?_, rfl⟩; decide
  | 3, _ => refine ⟨_, ?_, rfl⟩; decide
  | 4, _ => refine ⟨_, ?_, rfl⟩; decide
  | 5, _ => refine ⟨_, ?_, rfl⟩; decide
  | 6, _ => refine ⟨_, ?_, rfl⟩; decide
theorem seven_drew (w : World) (t : TypeId) : ∀ i, i < 7 → ∃ y : ByteArray, y.size ≤ 12 ∧ (w.alloc (Obj.cells #[.string ⟨#[32]⟩, .string ⟨#[48]⟩, .string ⟨#[45]⟩, .string ⟨#[120]⟩, .string ⟨#[49]⟩, .string ⟨#[57]⟩, .string ⟨#[46]⟩] t)).drew.cell? ⟨w.heap.size, 0 + i, none⟩ = some (.string y) := seven_any w _ rfl t
set_option maxHeartbeats 1000000 in
theorem l01Spoil_src (g : Nat) (A : Option Addr) (n c K : Nat) (xs : List Int) (t : ByteArray) (w : World) (hK : K ≤ 100000) (ht : t.size ≤ 1000) (h : Src w g A n c xs K) :
    Calls Tryz.prog 68 #[.pointer (some ⟨g, 0, none⟩), .string t] w fun e w' => StrRes e ∧ Src w' g A n c xs (K + 10) ∧ w.grownBy w' (some g) := by
  have hgl := h.lt
  have hP := hid (pick_src g A n c K xs 5 w (by omega) (by omega) h)
  clear h
  go_enter Tryz.func68, Tryz.ntmps68
  go_wp2_with fail
  refine hP.out.mono ?_
  rintro e w1 ⟨⟨x, x0, x1, rfl⟩, hs1, hg1⟩
  have hz1 := hg1.size
  clear hP
  by_cases c0 : x = 0
  · subst c0
    go_wp2_with fail
    refine (pick_src g A n c (K + 2) xs ((t.size : Int) + 1) w1 (by omega) (by omega) hs1).mono ?_
    rintro e w2 ⟨⟨y, y0, y1, rfl⟩, hs2, hg2⟩
    obtain ⟨a, rfl⟩ := Int.eq_ofNat_of_zero_le y0
    have ha : a ≤ t.size := by omega
    have f1 : (a : Int) ≤ (t.size : Int) := by omega
    have hgg2 := grown_trans hg1 hg2
    have hz2 := hgg2.size
    clear hs1 hg1 hg2 y1
    go_wp2
    go_region_with (go_at_call 69; refine (text_src g A n c (K + 4) xs w2.heap.size 0 7 7 _ (by omega) (by omega) (by simp) (by omega) (by omega) (seven_drew w2 _) (hs2.below (B := w2.heap.size) (by repeat' (first | exact Below.refl _ _ | (with_reducible first | assumption | exact Nat.le_refl _ | refine Below.alloc ?_ ?_ _ | refine Below.setCell ?_ ?_ _ | refine Below.drew ?_ | refine below_drewN ?_ _) | refine Below.trans ?_ (Below.mono (by assumption) ?_) | exact Below.size (by assumption) | omega | go_size | (simp at *; omega))) (by omega))).mono ?_; rintro e w3 ⟨⟨z, hz, rfl⟩, hs3, hg3⟩)
    all_goals
      go_simp
      go_wp2
      go_ret
      exact ⟨⟨_, by simp only [ByteArray.size_append, ByteArray.size_extract]; omega, rfl⟩, hs3.more (by omega), grown_trans (grown_bl hgg2 (B := w2.heap.size) (by repeat' (first | exact Below.refl _ _ | (with_reducible first | assumption | exact Nat.le_refl _ | refine Below.alloc ?_ ?_ _ | refine Below.setCell ?_ ?_ _ | refine Below.drew ?_ | refine below_drewN ?_ _) | refine Below.trans ?_ (Below.mono (by assumption) ?_) | exact Below.size (by assumption) | omega | go_size | (simp at *; omega))) hz2) hg3⟩
  · by_cases c1 : x = 1
    · subst c1
      by_cases ht0 : t.size = 0
      · have hte : t = ⟨#[]⟩ := by
          obtain ⟨d⟩ := t
          have hd : d.size = 0 := ht0
          rw [Array.eq_empty_of_size_eq_zero hd]
        subst hte
        go_wp2
        go_ret
        exact ⟨⟨_, by omega, rfl⟩, hs1.more (by omega), hg1⟩
      · have hq1 : t.toList.isEmpty = false := toList_ne ht0
        go_wp2_with fail
        refine (pick_src g A n c (K + 2) xs (t.size : Int) w1 (by omega) (by omega) hs1).mono ?_
        rintro e w2 ⟨⟨y, y0, y1, rfl⟩, hs2, hg2⟩
        obtain ⟨a, rfl⟩ := Int.eq_ofNat_of_zero_le y0
        have ha : a < t.size := by omega
        have f1 : (a : Int) ≤ (t.size : Int) := by omega
        have f2 : (a : Int) + 1 ≤ (t.size : Int) := by omega
        have hgg2 := grown_trans hg1 hg2
        clear hs1 hg1 hg2 y1
        go_wp2
        go_quiet (fail)
        go_wp2
        go_ret
        exact ⟨⟨_, by simp only [ByteArray.size_append, ByteArray.size_extract]; omega, rfl⟩, (show Src (w2.drewN nq) g A n c xs (K + 4) from hs2).more (by omega), grown_bl hgg2 (B := w.heap.size) (by repeat' (first | exact Below.refl _ _ | (with_reducible first | assumption | exact Nat.le_refl _ | refine Below.alloc ?_ ?_ _ | refine Below.setCell ?_ ?_ _ | refine Below.drew ?_ | refine below_drewN ?_ _) | refine Below.trans ?_ (Below.mono (by assumption) ?_) | exact Below.size (by assumption) | omega | go_size | (simp at *; omega))) (Nat.le_refl _)⟩
    · go_wp2
      go_ret
      exact ⟨⟨t, by omega, rfl⟩, hs1.more (by omega), hg1⟩
end Go.Proofs.YtgphkfnobmponaaGreat
