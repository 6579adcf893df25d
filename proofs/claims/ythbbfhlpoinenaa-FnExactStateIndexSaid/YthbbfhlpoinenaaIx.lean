/- Contracts of the index of a state: a map of indices, and a search by halves. -/
import Derived.Test.YthbbfhlpoinenaaG
import Derived.Test.YthbbfhlpoinenaaB
import Derived.Maps.OwnOps
import Derived.Maps.Views
import Derived.Deep.RegionHeld3
import Derived.Deep.DeepCutAuto
namespace Go.Proofs.Ythbbfhlpoinenaa
open Go.RowKit Go.Maps
set_option linter.unusedVariables false

theorem rise_lt {xs : List Int} (h : xs.Pairwise (· < ·)) {i j : Nat} {x y : Int} (hx : xs[i]? = some x) (hy : xs[j]? = some y) (hij : i < j) : x < y := by
  obtain ⟨hi, ei⟩ := List.getElem?_eq_some_iff.1 hx
  obtain ⟨hj, ej⟩ := List.getElem?_eq_some_iff.1 hy
  have := List.pairwise_iff_getElem.1 h i j hi hj hij
  rw [ei, ej] at this
  exact this
theorem rise_le {xs : List Int} (h : xs.Pairwise (· < ·)) {i j : Nat} {x y : Int} (hx : xs[i]? = some x) (hy : xs[j]? = some y) : (x < y ↔ i < j) := by
  constructor
  · intro k
    apply Classical.byContradiction
    intro hn
    rcases Nat.lt_or_eq_of_le (Nat.le_of_not_lt hn) with e | e
    · have := rise_lt h hy hx e; omega
    · subst e; rw [hx] at hy; have := Option.some.inj hy; omega
  · exact rise_lt h hx hy
theorem l09Find_any (A : Option Addr) (n c : Nat) (xs : List Int) (m : Int) (j : Nat) (w : World) (hn : n ≤ 1099511627776) (hx : xs.Pairwise (· < ·)) (hj : xs[j]? = some m) (hr : Rd w w.heap.size 1 A n (ints xs)) :
    Calls Try.prog 49 #[.slice A n c, .int .i64 m] w fun e w' => e = .returned (.int .i64 j) ∧ w = w' := by
  have hlen := hr.len
  have hjn : j < n := by have := (List.getElem?_eq_some_iff.1 hj).1; omega
  have hcmp := hid (fun (i : Nat) (x : Int) (hi : xs[i]? = some x) => rise_le hx hi hj)
  have hrr := hid hr
  clear hx hj hr hlen
  go_enter Try.func49, Try.ntmps49
  go_wp2
  go_loop [5, 6] (fun l h => ∃ (lo hi : Nat), l = .int .i64 lo ∧ h = .int .i64 hi ∧ lo ≤ j ∧ j ≤ hi ∧ hi < n) (fun l h => (intOf h - intOf l).toNat)
  case atStart => exact ⟨0, n - 1, rfl, by (have e : ((n - 1 : Nat) : Int) = (n : Int) - 1 := by omega); rw [e], Nat.zero_le _, by omega, by omega⟩
  case round =>
    obtain ⟨lo, hi, rfl, rfl, h1, h2, h3⟩ := hrel
    by_cases hlt : lo < hi
    · have hmid : (((lo + hi) / 2 : Nat) : Int) = ((lo : Int) + (hi : Int)) / 2 := by omega
      have hm1 : (lo + hi) / 2 < hi := by omega
      have hm2 : lo ≤ (lo + hi) / 2 := by omega
      obtain ⟨b, off, x, rfl, _, hxm, _, hc⟩ := hrr.out.at_ (i := (lo + hi) / 2) (by omega)
      have hcm := hcmp.out _ x hxm
      have HM := hid hmid
      by_cases hxl : x < m
      · have hmj := hcm.1 hxl
        clear hxm hcm hmid
        go_wp2
        go_round
        case rel => exact ⟨(lo + hi) / 2 + 1, hi, by go_num, rfl, hmj, h2, h3⟩
        case measure => simp [intOf]; omega
      · have hmj : j ≤ (lo + hi) / 2 := by
          apply Classical.byContradiction
          intro hn2
          exact hxl (hcm.2 (by omega))
        clear hxm hcm hmid
        go_wp2
        go_round
        case rel => exact ⟨lo, (lo + hi) / 2, rfl, by go_num, h1, hmj, by omega⟩
        case measure => simp [intOf]; omega
    · have : lo = j := by omega
      subst this
      go_wp2
      go_ret
      exact ⟨rfl, rfl⟩
theorem lawI : Keyed Try.prog 2 := int_keyed Try.underlying2
theorem zeroI (w : World) : (zeroValue 2).run Try.prog w = .ok (.int .i64 0) w := by kernel_rfl
/-- The map tells the index of each of the first k numbers. -/
def IdxOk (D : DataW Unit) (xs : List Int) (k : Nat) : Prop := IsMap D ∧ ∀ (j : Nat) (x : Int), j < k → xs[j]? = some x → D.atKey (.int .i64 x) (.lit (.int .i64 0)) = .lit (.int .i64 (j : Int))
theorem IdxOk.step {D : DataW Unit} {xs : List Int} {k : Nat} {x : Int} (h : IdxOk D xs k) (hx : xs[k]? = some x) (hr : xs.Pairwise (· < ·)) : IdxOk (D.put (.int .i64 x) (.lit (.int .i64 (k : Int)))) xs (k + 1) := by
  refine ⟨h.1.put _ _, fun j y hj hy => ?_⟩
  rcases Nat.lt_or_eq_of_le (Nat.le_of_lt_succ hj) with e | rfl
  · have hlt := rise_lt hr hy hx e
    rw [atKey_put_other (fun e2 => by injection e2 with _ e2; omega)]
    exact h.2 j y e hy
  · rw [hx] at hy
    obtain rfl := Option.some.inj hy
    exact atKey_put_same h.1 (show WideAt.IsKeyLit (.int .i64 x) from trivial) _ _
set_option maxHeartbeats 400000 in
theorem indices_any (A : Option Addr) (n c : Nat) (h : Int) (xs : List Int) (w : World) (hn : n ≤ 1024) (hx : xs.Pairwise (· < ·)) (hbd : ∀ x ∈ xs, 0 ≤ x ∧ x ≤ 1023) (hr : Rd w w.heap.size 2 A n (sts h xs)) :
    Calls Try.prog 53 #[.slice A n c] w fun e w' => ∃ (B : Nat) (D : DataW Unit), e = .returned (.map (some B)) ∧ w'.ownsMap Try.prog 2 (plainElem Try.prog 2) B n D ∧ IdxOk D xs n ∧ Below w.heap.size w w' := by
  have hmm := @run_makeMap Try.prog
  have hst : IdxOk (.map []) xs 0 := ⟨isMap_empty, fun j x h => absurd h (by omega)⟩
  have hst := hid hst
  have HX := hid hx
  have HB := hid hbd
  have HR := hid hr
  clear hx hr hbd
  go_enter Try.func53, Try.ntmps53
  go_wp2
  go_loopw [9] (fun i wr => ∃ (k : Nat) (D : DataW Unit), k ≤ n ∧ i = .int .i64 k ∧ wr.ownsMap Try.prog 2 (plainElem Try.prog 2) w.heap.size k D ∧ Hid (IdxOk D xs k) ∧ Below w.heap.size w wr) (fun i _ => n - (intOf i).toNat)
  case atStart => exact ⟨0, _, Nat.zero_le _, rfl, World.ownsMap_made _ _ _ _, hst, (Below.refl _ _).alloc (Nat.le_refl _) _⟩
  case round =>
    obtain ⟨k, D, hk, rfl, hown, hD, hb0⟩ := hrel
    have hz := hb0.size
    by_cases hlt : k < n
    · obtain ⟨b, off, x, rfl, hb, hxk, hc1, hc2⟩ := (HR.out.below hb0 (Nat.le_refl _)).st_at hlt
      have HD := hid (hD.out.step hxk HX.out)
      obtain ⟨x0, x1⟩ := HB.out x (List.mem_of_getElem? hxk)
      have hkey : keyOf Try.prog 2 (.int .i64 x) = some (.int .i64 x) := keyOf_int_mk Try.underlying2 (WalkArith.wf_i64 (by omega))
      clear hxk hb hst
      go_wp2_with (at_mapUpdate; refine wpList_mapUpdate_own _ rfl _ _ _ 55 rfl 2 2 lawI Try.underlying55 _ w.heap.size k _ rfl (hown.alloc _) (by unfold maxLen; omega) _ _ _ rfl rfl hkey _ [] (plainElem_int Try.underlying2 (WalkArith.wf_i64 (by omega))) ?_; intro w1 hown1 hgrow1)
      go_roundw
      case rel => exact ⟨k + 1, _, by omega, by go_num, hown1, HD, (hb0.alloc hz _).grown hgrow1 (by simp; omega) (fun j hj => by cases hj; exact Nat.le_refl _)⟩
      case measure => simp [intOf]; omega
    · have : k = n := by omega
      subst this
      go_wp2
      go_ret
      exact ⟨_, D, rfl, hown, hD.out, hb0⟩
theorem below_undrew {B : Nat} {w w' : World} (h : Below B w.drew w') : Below B w w' := ⟨h.os, h.tape, h.output, h.size, h.block⟩
/-- The place of a number in a list. -/
def pos (m : Int) : List Int → Nat
  | [] => 0
  | x :: xs => if x = m then 0 else pos m xs + 1
theorem pos_at {m : Int} : ∀ {xs : List Int}, m ∈ xs → xs[pos m xs]? = some m := by
  intro xs
  induction xs with
  | nil => intro h; cases h
  | cons x xs ih =>
    intro h
    by_cases e : x = m
    · subst e; simp [pos]
    · rcases List.mem_cons.1 h with h | h
      · exact absurd h.symm e
      · simpa [pos, e] using ih h
def rStateIndex (h m : Int) : Int × Int := if stOk h m then (((pos m (msks (popc h.toNat m) h) : Nat) : Int), 0) else (0, 1)
theorem msks_facts {h m : Int} (k : stOk h m = true) : (msks (popc h.toNat m) h).Pairwise (· < ·) ∧ (msks (popc h.toNat m) h)[pos m (msks (popc h.toNat m) h)]? = some m ∧ ∀ x ∈ msks (popc h.toNat m) h, 0 ≤ x ∧ x ≤ 1023 := by
  obtain ⟨k1, k2, k3, k4, k5⟩ := stOk_iff k
  have h1024 := pow_le10 k1 k2
  refine ⟨mskL_rises _ _ _ _, pos_at (mskL_all _ _ _ _ _ k3 ?_ rfl), fun x hx => ?_⟩
  · have : ((2 ^ h.toNat : Nat) : Int) = 2 ^ h.toNat := by simp
    omega
  · have := mskL_mem _ _ _ _ _ hx
    omega
set_option maxHeartbeats 1000000 in
theorem specStateIndex_any (h m : Int) (w : World) :
    Calls Try.prog 15 #[.agg #[.int .i64 h, .int .i64 m]] w fun e w' => e = .returned (.tuple #[.int .i64 (rStateIndex h m).1, .int .i64 (rStateIndex h m).2]) ∧ Below w.heap.size w w' := by
  have hby := hid (Bx.new w 26 #[.int .i64 h, .int .i64 m])
  by_cases k : stOk h m = true
  · obtain ⟨k1, k2, k3, k4, k5⟩ := stOk_iff k
    obtain ⟨f1, f2, f3⟩ := msks_facts k
    have hbp := popc_bd h.toNat m
    have hlm : m < 2 ^ h.toNat := by omega
    have hV := fun (w1 : World) => l08Ok_any h m w1
    rw [k] at hV
    have hV := hid hV
    have HC := hid (fun (w1 : World) => l08Count_any m h.toNat w1 k3 (by omega) hlm)
    have hs : Hid (rStateIndex h m = (((pos m (msks (popc h.toNat m) h) : Nat) : Int), 0)) := by show _ = _; rw [rStateIndex, if_pos k]
    have HM := hid (fun (w1 : World) => l09Masks_any (popc h.toNat m) h w1 k1 k2)
    have hll := msks_len (p := popc h.toNat m) k1 k2
    have HF := hid (fun (A : Option Addr) (c : Nat) (w1 : World) (r : Rd w1 w1.heap.size 1 A (msks (popc h.toNat m) h).length (ints (msks (popc h.toNat m) h))) => l09Find_any A (msks (popc h.toNat m) h).length c (msks (popc h.toNat m) h) m _ w1 (by omega) f1 f2 r)
    generalize pos m (msks (popc h.toNat m) h) = j at *
    generalize msks (popc h.toNat m) h = L at *
    generalize popc h.toNat m = q at *
    clear k f1 f2 f3 hlm k4
    go_enter Try.func15, Try.ntmps15
    go_wp2_with (go_at_call 48; refine (hV.out _).mono ?_; rintro e w1 ⟨rfl, hb1⟩; have hby1 := hid (hby.out.below hb1 hby.out.lt); have hlt1 := hby1.out.lt; have cA : w1.cell? ⟨w.heap.size, 0, none⟩ = some (.int .i64 h) := hby1.out.cell 0; have cB : w1.cell? ⟨w.heap.size, 1, none⟩ = some (.int .i64 m) := hby1.out.cell 1; have hB1 := hid (((Below.refl w.heap.size w).alloc (Nat.le_refl _) (Obj.cells #[.int .i64 h, .int .i64 m] 26)).trans (hb1.mono (by simp))))
    go_region_held3 (fun w' => w'.cell? ⟨w.heap.size, 0, none⟩ = some (.int .i64 h) ∧ w'.cell? ⟨w.heap.size, 1, none⟩ = some (.int .i64 m))
      (first | exact hS2 | exact ⟨cA, cB⟩ | go_keep)
      (first | (go_at_call 51; refine (HC.out _).mono ?_; rintro e w' ⟨rfl, rfl⟩) | (go_at_call 50; refine (HM.out _).mono ?_; rintro e w2 ⟨v2, rfl, ho2, hb2⟩; obtain ⟨A2, c2, rfl⟩ := own_form ho2; have hS2 : w2.cell? ⟨w.heap.size, 0, none⟩ = some (.int .i64 h) ∧ w2.cell? ⟨w.heap.size, 1, none⟩ = some (.int .i64 m) := ⟨(hb2.cell (p := ⟨w.heap.size, 0, none⟩) hlt1).trans cA, (hb2.cell (p := ⟨w.heap.size, 1, none⟩) hlt1).trans cB⟩; have hR2 := hid (Rd.of_own ho2)) | (go_at_call 49; refine (HF.out _ _ _ hR2.out).mono ?_; rintro e w' ⟨rfl, rfl⟩))
    go_wp2
    go_ret2
    exact ⟨by rw [hs.out]; rfl, hB1.out.trans ((below_undrew hb2).mono hB1.out.size)⟩
  · have hV := fun (w1 : World) => l08Ok_any h m w1
    have k : stOk h m = false := by simpa using k
    rw [k] at hV
    have hV := hid hV
    have hs : Hid (rStateIndex h m = (0, 1)) := by show _ = _; simp [rStateIndex, k]
    clear k
    go_enter Try.func15, Try.ntmps15
    go_wp2_with (go_at_call 48; refine (hV.out _).mono ?_; rintro e w1 ⟨rfl, hb1⟩)
    go_ret2
    exact ⟨by rw [hs.out]; rfl, (by repeat' (first | exact Below.refl _ _ | (with_reducible assumption) | (with_reducible refine Below.alloc ?_ ?_ _) | (with_reducible refine Below.setCell ?_ ?_ _) | (with_reducible refine Below.drew ?_) | (with_reducible refine below_drewN ?_ _) | (refine Below.trans ?_ (Below.mono (by assumption) ?_)) | (with_reducible exact Nat.le_refl _) | (with_reducible assumption) | (exact Below.size (by assumption)) | omega | go_size | (simp at *; omega)))⟩
set_option maxHeartbeats 1000000 in
theorem StateIndex_any (h m : Int) (w : World) :
    Calls Try.prog 17 #[.agg #[.int .i64 h, .int .i64 m]] w fun e w' => e = .returned (.tuple #[.int .i64 (rStateIndex h m).1, .int .i64 (rStateIndex h m).2]) ∧ Below w.heap.size w w' := by
  have hby := hid (Bx.new w 26 #[.int .i64 h, .int .i64 m])
  by_cases k : stOk h m = true
  · obtain ⟨k1, k2, k3, k4, k5⟩ := stOk_iff k
    obtain ⟨f1, f2, f3⟩ := msks_facts k
    have hV := fun (w1 : World) => validState_any h m w1
    rw [k] at hV
    have hV := hid hV
    have HC := hid (fun (w1 : World) => props_any h m w1 (by omega) (by omega) k3 (by omega))
    have hs : Hid (rStateIndex h m = (((pos m (msks (popc h.toNat m) h) : Nat) : Int), 0)) := by show _ = _; rw [rStateIndex, if_pos k]
    have HM := hid (fun (w1 : World) => allStates_any (popc h.toNat m) h w1 k1 k2)
    have hll := msks_len (p := popc h.toNat m) k1 k2
    have HF := hid (fun (A : Option Addr) (c : Nat) (w1 : World) (r : Rd w1 w1.heap.size 2 A (msks (popc h.toNat m) h).length (sts h (msks (popc h.toNat m) h))) => indices_any A (msks (popc h.toNat m) h).length c h (msks (popc h.toNat m) h) w1 hll f1 f3 r)
    have hjl : pos m (msks (popc h.toNat m) h) < (msks (popc h.toNat m) h).length := (List.getElem?_eq_some_iff.1 f2).1
    have HJ : Hid (∀ D, IdxOk D (msks (popc h.toNat m) h) (msks (popc h.toNat m) h).length → D.atKey (.int .i64 m) (.lit (.int .i64 0)) = .lit (.int .i64 ((pos m (msks (popc h.toNat m) h) : Nat) : Int))) := fun D hD => hD.2 _ _ hjl f2
    have hkey : Hid (keyOf Try.prog 2 (.int .i64 m) = some (.int .i64 m)) := keyOf_int_mk Try.underlying2 (WalkArith.wf_i64 (by omega))
    generalize pos m (msks (popc h.toNat m) h) = j at *
    generalize msks (popc h.toNat m) h = L at *
    generalize popc h.toNat m = q at *
    clear k f1 f2 f3 k4
    go_enter Try.func17, Try.ntmps17
    go_wp2_with (go_at_call 52; refine (hV.out _).mono ?_; rintro e w1 ⟨rfl, hb1⟩; have hby1 := hid (hby.out.below hb1 hby.out.lt); have hlt1 := hby1.out.lt; have cA : w1.cell? ⟨w.heap.size, 0, none⟩ = some (.int .i64 h) := hby1.out.cell 0; have cB : w1.cell? ⟨w.heap.size, 1, none⟩ = some (.int .i64 m) := hby1.out.cell 1; have hB1 := hid (((Below.refl w.heap.size w).alloc (Nat.le_refl _) (Obj.cells #[.int .i64 h, .int .i64 m] 26)).trans (hb1.mono (by simp))))
    go_region_held3 (fun w' => w'.cell? ⟨w.heap.size, 0, none⟩ = some (.int .i64 h) ∧ w'.cell? ⟨w.heap.size, 1, none⟩ = some (.int .i64 m))
      (first | exact hS4.out | exact hS3.out | exact hS2.out | exact ⟨cA, cB⟩ | go_keep)
      (first | (go_at_call 55; refine (HC.out _).mono ?_; rintro e w2 ⟨rfl, hb2⟩; have hbw2 : Below w1.heap.size w1 w2 := below_undrew hb2; have hS2 : Hid (w2.cell? ⟨w.heap.size, 0, none⟩ = some (.int .i64 h) ∧ w2.cell? ⟨w.heap.size, 1, none⟩ = some (.int .i64 m)) := ⟨(hbw2.cell (p := ⟨w.heap.size, 0, none⟩) hlt1).trans cA, (hbw2.cell (p := ⟨w.heap.size, 1, none⟩) hlt1).trans cB⟩; have hHb2 := hid hbw2; clear hb2 hbw2) | (go_at_call 54; refine (HM.out _).mono ?_; rintro e w3 ⟨v3, rfl, ho3, hb3⟩; obtain ⟨A3, c3, rfl⟩ := own_form ho3; have hbw3 : Below w1.heap.size w1 w3 := bchain hHb2.out hb3; have hS3 : Hid (w3.cell? ⟨w.heap.size, 0, none⟩ = some (.int .i64 h) ∧ w3.cell? ⟨w.heap.size, 1, none⟩ = some (.int .i64 m)) := ⟨(hbw3.cell (p := ⟨w.heap.size, 0, none⟩) hlt1).trans cA, (hbw3.cell (p := ⟨w.heap.size, 1, none⟩) hlt1).trans cB⟩; have hHb3 := hid hbw3; have hR3 := hid (Rd.of_own ho3); clear hb3 hbw3 ho3) | (go_at_call 53; refine (HF.out _ _ _ hR3.out).mono ?_; rintro e w4 ⟨B4, D4, rfl, hown4, hI4, hb4⟩; have hbw4 : Below w1.heap.size w1 w4 := bchain hHb3.out hb4; have hS4 : Hid (w4.cell? ⟨w.heap.size, 0, none⟩ = some (.int .i64 h) ∧ w4.cell? ⟨w.heap.size, 1, none⟩ = some (.int .i64 m)) := ⟨(hbw4.cell (p := ⟨w.heap.size, 0, none⟩) hlt1).trans cA, (hbw4.cell (p := ⟨w.heap.size, 1, none⟩) hlt1).trans cB⟩; have hHb4 := hid hbw4; have hrun : (Instr.lookup 55 (.map (some B4)) (.int .i64 m) false).run Try.prog w4 = .ok (.int .i64 (j : Int)) w4 := (by obtain ⟨cc, h1, h2, _⟩ := hown4.lookup_int lawI Try.underlying55 Try.underlying2 (zeroI _) hkey.out; have h3 := (HJ.out D4 hI4).symm.trans h2; injection h3 with h3; injection h3 with _ h3; rw [h3]; exact h1); clear hb4 hbw4 hown4 hI4))
    go_wp2
    go_ret2
    exact ⟨by rw [hs.out]; rfl, hB1.out.trans (hHb4.out.mono hB1.out.size)⟩
  · have hV := fun (w1 : World) => validState_any h m w1
    have k : stOk h m = false := by simpa using k
    rw [k] at hV
    have hV := hid hV
    have hs : Hid (rStateIndex h m = (0, 1)) := by show _ = _; simp [rStateIndex, k]
    clear k
    go_enter Try.func17, Try.ntmps17
    go_wp2_with (go_at_call 52; refine (hV.out _).mono ?_; rintro e w1 ⟨rfl, hb1⟩)
    go_ret2
    exact ⟨by rw [hs.out]; rfl, (by repeat' (first | exact Below.refl _ _ | (with_reducible assumption) | (with_reducible refine Below.alloc ?_ ?_ _) | (with_reducible refine Below.setCell ?_ ?_ _) | (with_reducible refine Below.drew ?_) | (with_reducible refine below_drewN ?_ _) | (refine Below.trans ?_ (Below.mono (by assumption) ?_)) | (with_reducible exact Nat.le_refl _) | (with_reducible assumption) | (exact Below.size (by assumption)) | omega | go_size | (simp at *; omega)))⟩
theorem fnExactStateIndex_walk (w : World) (aSH aSM : Int) (_ : BD aSH) (_ : BD aSM) :
    Calls Try.prog 3 #[.agg #[.int .i64 aSH, .int .i64 aSM]] w fun e w' => e = .returned (.bool true) ∧ Below w.heap.size w w' := by
  have hS := hid (fun  (w1 : World)  => specStateIndex_any aSH aSM w1 )
  have hI := hid (fun  (w1 : World)  => StateIndex_any aSH aSM w1 )
  generalize rStateIndex aSH aSM = r at *
  obtain ⟨r0, r1⟩ := r
  go_enter Try.func3, Try.ntmps3
  go_wp2_with (go_at_call 16; refine (toState_any _ _ _).mono ?_; rintro e w1 ⟨rfl, hb1⟩; have s1 := hb1.size; have hX0 := hb1; have hB : Below w.heap.size w w1 := (by repeat' (first | exact Below.refl _ _ | (with_reducible assumption) | (with_reducible refine Below.alloc ?_ ?_ _) | (with_reducible refine Below.setCell ?_ ?_ _) | (with_reducible refine Below.drew ?_) | (with_reducible refine below_drewN ?_ _) | (refine Below.trans ?_ (Below.mono (by assumption) ?_)) | (with_reducible exact Nat.le_refl _) | (with_reducible assumption) | (exact Below.size (by assumption)) | omega | go_size | (simp at *; omega))); obtain ⟨hchX0, hfhX0, hzhX0, hlhX0⟩ := bcell hX0)
  go_wp2_with (go_at_call 15; refine (hS.out _).mono ?_; rintro e w2 ⟨rfl, hb2⟩; have s2 := hb2.size; replace hB := bchain hB hb2; replace hX0 := bchain hX0 hb2; obtain ⟨hchX0, hfhX0, hzhX0, hlhX0⟩ := bcell hX0)
  go_wp2_with (go_at_call 16; refine (toState_any _ _ _).mono ?_; rintro e w3 ⟨rfl, hb3⟩; have s3 := hb3.size; replace hB := bchain hB hb3; replace hX0 := bchain hX0 hb3; obtain ⟨hchX0, hfhX0, hzhX0, hlhX0⟩ := bcell hX0)
  go_wp2_with (go_at_call 17; refine (hI.out _).mono ?_; rintro e w4 ⟨rfl, hb4⟩; have s4 := hb4.size; replace hB := bchain hB hb4; replace hX0 := bchain hX0 hb4; obtain ⟨hchX0, hfhX0, hzhX0, hlhX0⟩ := bcell hX0)
  go_ret
  exact ⟨rfl, (by repeat' (first | exact Below.refl _ _ | (with_reducible assumption) | (with_reducible refine Below.alloc ?_ ?_ _) | (with_reducible refine Below.setCell ?_ ?_ _) | (with_reducible refine Below.drew ?_) | (with_reducible refine below_drewN ?_ _) | (refine Below.trans ?_ (Below.mono (by assumption) ?_)) | (with_reducible exact Nat.le_refl _) | (with_reducible assumption) | (exact Below.size (by assumption)) | omega | go_size | (simp at *; omega)))⟩

end Go.Proofs.Ythbbfhlpoinenaa
