/- Several texts in one: Wa, Qi, Zb. -/
import Derived.Test.YtgphkfnobmponaaGreatG27
import Derived.Test.YtgphkfnobmponaaGreatG14
import Derived.Test.YtgphkfnobmponaaGreatNy
import Derived.Test.YtgphkfnobmponaaGreatG28
import Derived.Test.YtgphkfnobmponaaGreatG09
import Derived.Deep.RegionWith
import Derived.Test.YtgphkfnobmponaaGreatG31
/- ValidNotation: the reference's contract, and the law's walk. -/
namespace Go.Proofs.YtgphkfnobmponaaGreat
open Go.RowKit
set_option linter.unusedVariables false

theorem NtRd.drew {x : Note} {s : Six} {w : World} (h : NtRd x s w) : NtRd x s w.drew := h
end Go.Proofs.YtgphkfnobmponaaGreat

/- Contracts of the functions that make passing patterns: the reference's TogetherOf, l06Own, and l04Site, which draws. -/
namespace Go.Proofs.YtgphkfnobmponaaGreat
open Go.RowKit
set_option linter.unusedVariables false

theorem own_setq {w : World} {base e sz n : Nat} {v : Value} {xs : List Value} (h : w.ownsRow base e sz v n xs) {p : Addr} (hp : p.block < base) (u : Value) : (w.setCell p u).ownsRow base e sz v n xs := by
  refine ⟨h.1, ?_⟩
  rcases h.2 with hn | ⟨g, cap, cur, rfl, hg, hh, r⟩
  · exact .inl hn
  · exact .inr ⟨g, cap, cur, rfl, hg, by rw [Below.heap_setCell w p u g (by omega)]; exact hh, r⟩
def selfs (xs : List Int) : List PT := xs.map fun x => (x, false)
theorem selfs_len (xs : List Int) : (selfs xs).length = xs.length := by simp [selfs]
theorem selfs_step {xs : List Int} {k : Nat} {x : Int} (h : xs[k]? = some x) : selfs (xs.take (k + 1)) = selfs (xs.take k) ++ [(x, false)] := by
  rw [take_snoc h, selfs, List.map_append]; rfl
set_option maxRecDepth 100000 in
theorem l06Self_any (A : Option Addr) (n c : Nat) (xs : List Int) (w : World) (hn : n ≤ 1099511627775) (hr : Rd w w.heap.size 1 A n (ints xs)) :
    Calls Tryz.prog 143 #[.slice A n c] w fun e w' => ∃ v, e = .returned v ∧ w'.ownsRow w.heap.size 83 2 v (selfs xs).length (ths (selfs xs)) ∧ Below w.heap.size w w' := by
  have HL := hid hr.len
  have HR := hid hr
  clear hr
  go_enter Tryz.func143, Tryz.ntmps143
  go_wp2
  go_loopw [3, 4] (fun v i wr => Hid (∃ (k : Nat) (out : List PT), k ≤ n ∧ i = .int .i64 k ∧ Hid (out = selfs (xs.take k)) ∧ out.length ≤ n ∧ wr.ownsRow w.heap.size 83 2 v out.length (ths out) ∧ Below w.heap.size w wr)) (fun _ i _ => n - (intOf i).toNat)
  case atStart => exact hid ⟨0, [], Nat.zero_le _, rfl, rfl, Nat.zero_le _, World.ownsRow_lit _ _ 0 (Nat.le_refl _) (by simp [maxLen]) rfl, (by repeat' (first | exact Below.refl _ _ | (with_reducible first | assumption | exact Nat.le_refl _ | refine Below.alloc ?_ ?_ _ | refine Below.setCell ?_ ?_ _ | refine Below.drew ?_ | refine below_drewN ?_ _) | refine Below.trans ?_ (Below.mono (by assumption) ?_) | exact Below.size (by assumption) | omega | go_size | (simp at *; omega)))⟩
  case round =>
    obtain ⟨k, out, hk, rfl, ho, hol, hrow, hb0⟩ := hrel.out
    have hz := hb0.size
    clear hrel
    by_cases hlt : k < n
    · obtain ⟨b, off, x, rfl, hb, hx, hd, c0⟩ := (HR.out.below hb0 (Nat.le_refl _)).at_ hlt
      have HS : Hid (out ++ [(x, false)] = selfs (xs.take (k + 1))) := by show _ = _; rw [selfs_step hx, ho.out]
      have hl2 : Hid (out.length = k) := by show _ = _; rw [ho.out, selfs_len, List.length_take, HL.out]; omega
      clear hx hd ho
      go_wp2_with (at_builtin; refine push_th rfl inf_pt (by omega) hrow x false _ rfl _ _ rfl rfl rfl (by first | rfl | simp) (by omega) (by omega) ?_; intro v5 w5 ho5 hb5 hg5)
      go_roundw
      case rel => exact hid ⟨k + 1, out ++ [(x, false)], by omega, by go_num, HS, by rw [List.length_append, List.length_singleton, hl2.out]; omega, ho5, (by repeat' (first | exact Below.refl _ _ | (with_reducible first | assumption | exact Nat.le_refl _ | refine Below.alloc ?_ ?_ _ | refine Below.setCell ?_ ?_ _ | refine Below.drew ?_ | refine below_drewN ?_ _) | refine Below.trans ?_ (Below.mono (by assumption) ?_) | exact Below.size (by assumption) | omega | go_size | (simp at *; omega)))⟩
      case measure => simp [intOf]; omega
    · have HE : Hid (out = selfs xs) := by show _ = _; rw [ho.out, List.take_of_length_le (by rw [HL.out]; omega)]
      clear ho
      go_wp2
      go_ret
      exact ⟨_, rfl, by rw [← HE.out]; exact hrow, hb0⟩
def rTogetherOf (a b : List Int) : Psg × Int := if okP a && okP b then (if a.length = b.length then (if a.length ≤ 8 then ((selfs a, selfs b), 0) else (([], []), 5)) else (([], []), 6)) else (([], []), 1)
/-- A pattern of the call's own, its rows apart, and a code. -/
def TgRes (B : Nat) (r : Psg × Int) (e : Ending) (w : World) : Prop := ∃ A c A' c', (A = none → c = 0) ∧ (A' = none → c' = 0) ∧ e = .returned (.tuple #[.agg #[.slice A r.1.1.length c, .slice A' r.1.2.length c'], .int .i64 r.2]) ∧ w.ownsRow B 83 2 (.slice A r.1.1.length c) r.1.1.length (ths r.1.1) ∧ w.ownsRow B 83 2 (.slice A' r.1.2.length c') r.1.2.length (ths r.1.2) ∧ ∀ g, A = some ⟨g, 0, none⟩ → A' = some ⟨g, 0, none⟩ → False
theorem TgRes.no (B : Nat) (w : World) (x : Int) : TgRes B (([], []), x) (.returned (.tuple #[.agg #[.slice none 0 0, .slice none 0 0], .int .i64 x])) w := ⟨none, 0, none, 0, fun _ => rfl, fun _ => rfl, rfl, World.ownsRow_nil _ _ _ _, World.ownsRow_nil _ _ _ _, fun g h => by cases h⟩
set_option maxRecDepth 100000 in
set_option maxHeartbeats 4000000 in
theorem specTogetherOf_any (A A2 : Option Addr) (n c m d : Nat) (a b : List Int) (w : World) (hn : n ≤ 1099511627775) (hm : m ≤ 1099511627775) (hr : Rd w w.heap.size 1 A n (ints a)) (hs : Rd w w.heap.size 1 A2 m (ints b)) :
    Calls Tryz.prog 129 #[.slice A n c, .slice A2 m d] w fun e w' => TgRes w.heap.size (rTogetherOf a b) e w' ∧ Below w.heap.size w w' := by
  have l1 := hr.len
  have l2 := hs.len
  have hbx : Below w.heap.size w (w.alloc (Obj.cells #[.slice none 0 0, .slice none 0 0] 31)) := (by repeat' (first | exact Below.refl _ _ | (with_reducible first | assumption | exact Nat.le_refl _ | refine Below.alloc ?_ ?_ _ | refine Below.setCell ?_ ?_ _ | refine Below.drew ?_ | refine below_drewN ?_ _) | refine Below.trans ?_ (Below.mono (by assumption) ?_) | exact Below.size (by assumption) | omega | go_size | (simp at *; omega)))
  have hX := Bx.new w 31 #[.slice none 0 0, .slice none 0 0]
  have hV1 := l02Ok_any A n c a _ (by omega) ((hr.below hbx (Nat.le_refl _)).more hbx.size)
  have hV2 := hid (fun (w9 : World) (b9 : Below w.heap.size w w9) => l02Ok_any A2 m d b w9 (by omega) ((hs.below b9 (Nat.le_refl _)).more b9.size))
  have hS1 := hid (fun (w9 : World) (b9 : Below w.heap.size w w9) => l06Self_any A n c a w9 hn ((hr.below b9 (Nat.le_refl _)).more b9.size))
  have hS2 := hid (fun (w9 : World) (b9 : Below w.heap.size w w9) => l06Self_any A2 m d b w9 hm ((hs.below b9 (Nat.le_refl _)).more b9.size))
  clear hr hs
  cases ha : okP a with
  | false =>
    have HZ : Hid (rTogetherOf a b = (([], []), 1)) := by show _ = _; rw [rTogetherOf, ha]; rfl
    rw [ha] at hV1
    have hV1 := hid hV1
    clear ha l1 l2
    go_enter Tryz.func129, Tryz.ntmps129
    go_wp2_with fail
    refine hV1.out.mono ?_
    rintro e w1 ⟨rfl, hb1⟩
    have hX1 := hX.below hb1 hX.lt
    have z1 := hb1.size
    have hgr : w.heap.size < w1.heap.size := by simp at z1; omega
    have e0 := hX1.cell 0
    have e1 := hX1.cell 1
    have f0 := hX1.frozen 0
    have f1 := hX1.frozen 1
    replace e0 : w1.cell? ⟨w.heap.size, 0, none⟩ = some (.slice none 0 0) := e0
    replace e1 : w1.cell? ⟨w.heap.size, 1, none⟩ = some (.slice none 0 0) := e1
    have hB1 : Below w.heap.size w w1 := (by repeat' (first | exact Below.refl _ _ | (with_reducible first | assumption | exact Nat.le_refl _ | refine Below.alloc ?_ ?_ _ | refine Below.setCell ?_ ?_ _ | refine Below.drew ?_ | refine below_drewN ?_ _) | refine Below.trans ?_ (Below.mono (by assumption) ?_) | exact Below.size (by assumption) | omega | go_size | (simp at *; omega)))
    clear hX hX1 hb1
    go_wp2
    refine bodyPost_ret (v := .tuple #[.agg #[.slice none 0 0, .slice none 0 0], .int .i64 1]) ?_ rfl ?_
    · simp (maxDischargeDepth := 8) [results, Tryz.results129, go_sem, *]
    exact ⟨by rw [HZ.out]; exact TgRes.no _ _ _, (by repeat' (first | exact Below.refl _ _ | (with_reducible first | assumption | exact Nat.le_refl _ | refine Below.alloc ?_ ?_ _ | refine Below.setCell ?_ ?_ _ | refine Below.drew ?_ | refine below_drewN ?_ _) | refine Below.trans ?_ (Below.mono (by assumption) ?_) | exact Below.size (by assumption) | omega | go_size | (simp at *; omega)))⟩
  | true =>
    rw [ha] at hV1
    have hV1 := hid hV1
    have HA := hid ha
    clear ha
    go_enter Tryz.func129, Tryz.ntmps129
    go_wp2_with fail
    refine hV1.out.mono ?_
    rintro e w1 ⟨rfl, hb1⟩
    have hX1 := hX.below hb1 hX.lt
    have z1 := hb1.size
    have hB1 : Below w.heap.size w w1 := (by repeat' (first | exact Below.refl _ _ | (with_reducible first | assumption | exact Nat.le_refl _ | refine Below.alloc ?_ ?_ _ | refine Below.setCell ?_ ?_ _ | refine Below.drew ?_ | refine below_drewN ?_ _) | refine Below.trans ?_ (Below.mono (by assumption) ?_) | exact Below.size (by assumption) | omega | go_size | (simp at *; omega)))
    have hV2 := hV2.out w1 hB1
    clear hb1 hX hV1
    cases hb : okP b with
    | false =>
      have HZ : Hid (rTogetherOf a b = (([], []), 1)) := by show _ = _; rw [rTogetherOf, HA.out, hb]; rfl
      rw [hb] at hV2
      have hV2 := hid hV2
      clear hb l1 l2
      go_wp2_with fail
      refine hV2.out.mono ?_
      rintro e w2 ⟨rfl, hb2⟩
      have hX2 := hX1.below hb2 hX1.lt
      have z2 := hb2.size
      have hgr : w.heap.size < w2.heap.size := by simp at z1; omega
      have e0 := hX2.cell 0
      have e1 := hX2.cell 1
      have f0 := hX2.frozen 0
      have f1 := hX2.frozen 1
      replace e0 : w2.cell? ⟨w.heap.size, 0, none⟩ = some (.slice none 0 0) := e0
      replace e1 : w2.cell? ⟨w.heap.size, 1, none⟩ = some (.slice none 0 0) := e1
      have hB2 : Below w.heap.size w w2 := (by repeat' (first | exact Below.refl _ _ | (with_reducible first | assumption | exact Nat.le_refl _ | refine Below.alloc ?_ ?_ _ | refine Below.setCell ?_ ?_ _ | refine Below.drew ?_ | refine below_drewN ?_ _) | refine Below.trans ?_ (Below.mono (by assumption) ?_) | exact Below.size (by assumption) | omega | go_size | (simp at *; omega)))
      clear hX1 hX2 hb2
      go_wp2
      refine bodyPost_ret (v := .tuple #[.agg #[.slice none 0 0, .slice none 0 0], .int .i64 1]) ?_ rfl ?_
      · simp (maxDischargeDepth := 8) [results, Tryz.results129, go_sem, *]
      exact ⟨by rw [HZ.out]; exact TgRes.no _ _ _, (by repeat' (first | exact Below.refl _ _ | (with_reducible first | assumption | exact Nat.le_refl _ | refine Below.alloc ?_ ?_ _ | refine Below.setCell ?_ ?_ _ | refine Below.drew ?_ | refine below_drewN ?_ _) | refine Below.trans ?_ (Below.mono (by assumption) ?_) | exact Below.size (by assumption) | omega | go_size | (simp at *; omega)))⟩
    | true =>
      rw [hb] at hV2
      have hV2 := hid hV2
      have HRT : rTogetherOf a b = (if a.length = b.length then (if a.length ≤ 8 then ((selfs a, selfs b), 0) else (([], []), 5)) else (([], []), 6)) := by rw [rTogetherOf, HA.out, hb]; rfl
      rw [l1, l2] at HRT
      clear hb
      go_wp2_with fail
      refine hV2.out.mono ?_
      rintro e w2 ⟨rfl, hb2⟩
      have hX2 := hX1.below hb2 hX1.lt
      have z2 := hb2.size
      have hgr : w.heap.size < w2.heap.size := by simp at z1; omega
      have e0 := hX2.cell 0
      have e1 := hX2.cell 1
      have f0 := hX2.frozen 0
      have f1 := hX2.frozen 1
      replace e0 : w2.cell? ⟨w.heap.size, 0, none⟩ = some (.slice none 0 0) := e0
      replace e1 : w2.cell? ⟨w.heap.size, 1, none⟩ = some (.slice none 0 0) := e1
      have hB2 : Below w.heap.size w w2 := (by repeat' (first | exact Below.refl _ _ | (with_reducible first | assumption | exact Nat.le_refl _ | refine Below.alloc ?_ ?_ _ | refine Below.setCell ?_ ?_ _ | refine Below.drew ?_ | refine below_drewN ?_ _) | refine Below.trans ?_ (Below.mono (by assumption) ?_) | exact Below.size (by assumption) | omega | go_size | (simp at *; omega)))
      clear hX1 hb2 l1 l2 hV2
      by_cases hnm : n = m
      · rw [if_pos hnm] at HRT
        subst hnm
        by_cases h8 : n ≤ 8
        · rw [if_pos h8] at HRT
          have HZ := hid HRT
          have hq : ¬ (8 : Int) < (n : Int) := by omega
          have hS1 := hid (hS1.out w2 hB2)
          clear HRT
          go_wp2_with fail
          refine hS1.out.mono ?_
          rintro e w3 ⟨v3, rfl, ho3, hb3⟩
          have hB3 := bchain hB2 hb3
          have hX3 := hX2.below hb3 hX2.lt
          have z3 := hb3.size
          obtain ⟨A3, c3, rfl, hA3⟩ := own_formA ho3
          have hS2 := hid (hS2.out w3 hB3)
          clear e0 e1 f0 f1 hX2 hS1
          go_wp2_with fail
          refine hS2.out.mono ?_
          rintro e w4 ⟨v4, rfl, ho4, hb4⟩
          have hB4 := bchain hB3 hb4
          have hX4 := hX3.below hb4 hX3.lt
          obtain ⟨A4, c4, rfl, hA4⟩ := own_formA ho4
          have z4 := hb4.size
          have hap : ∀ g, A3 = some ⟨g, 0, none⟩ → A4 = some ⟨g, 0, none⟩ → False := fun g h h' => by
            subst h h'
            have h1 := (ho3.lt g rfl).2
            have h2 := (ho4.lt g rfl).1
            omega
          replace ho3 := own_below ho3 hb4
          have e0 := hX4.cell 0
          have e1 := hX4.cell 1
          have f0 := hX4.frozen 0
          have f1 := hX4.frozen 1
          replace e0 : w4.cell? ⟨w.heap.size, 0, none⟩ = some (.slice none 0 0) := e0
          replace e1 : w4.cell? ⟨w.heap.size, 1, none⟩ = some (.slice none 0 0) := e1
          have HO3 := hid ho3
          have HO4 := hid ho4
          have HAP := hid hap
          clear hX3 hX4 hS2 ho3 ho4 hap hb3 hb4
          go_wp2
          refine bodyPost_ret (v := .tuple #[.agg #[.slice A3 (selfs a).length c3, .slice A4 (selfs b).length c4], .int .i64 0]) ?_ rfl ?_
          · simp (maxDischargeDepth := 8) [results, Tryz.results129, go_sem, *]
          refine ⟨?_, (by repeat' (first | exact Below.refl _ _ | (with_reducible first | assumption | exact Nat.le_refl _ | refine Below.alloc ?_ ?_ _ | refine Below.setCell ?_ ?_ _ | refine Below.drew ?_ | refine below_drewN ?_ _) | refine Below.trans ?_ (Below.mono (by assumption) ?_) | exact Below.size (by assumption) | omega | go_size | (simp at *; omega)))⟩
          rw [HZ.out]
          exact ⟨A3, c3, A4, c4, hA3, hA4, rfl, own_more (own_setq (own_setq HO3.out (p := ⟨w.heap.size, 0, none⟩) (by show w.heap.size < _; omega) _) (p := ⟨w.heap.size, 1, none⟩) (by show w.heap.size < _; omega) _) (by omega), own_more (own_setq (own_setq HO4.out (p := ⟨w.heap.size, 0, none⟩) (by show w.heap.size < _; omega) _) (p := ⟨w.heap.size, 1, none⟩) (by show w.heap.size < _; omega) _) (by omega), HAP.out⟩
        · rw [if_neg h8] at HRT
          have HZ := hid HRT
          have hq : (8 : Int) < (n : Int) := by omega
          clear HRT
          go_wp2
          refine bodyPost_ret (v := .tuple #[.agg #[.slice none 0 0, .slice none 0 0], .int .i64 5]) ?_ rfl ?_
          · simp (maxDischargeDepth := 8) [results, Tryz.results129, go_sem, *]
          exact ⟨by rw [HZ.out]; exact TgRes.no _ _ _, (by repeat' (first | exact Below.refl _ _ | (with_reducible first | assumption | exact Nat.le_refl _ | refine Below.alloc ?_ ?_ _ | refine Below.setCell ?_ ?_ _ | refine Below.drew ?_ | refine below_drewN ?_ _) | refine Below.trans ?_ (Below.mono (by assumption) ?_) | exact Below.size (by assumption) | omega | go_size | (simp at *; omega)))⟩
      · rw [if_neg hnm] at HRT
        have HZ := hid HRT
        have hq : ((n : Int) != (m : Int)) = true := by simp; omega
        clear HRT hnm
        go_wp2
        refine bodyPost_ret (v := .tuple #[.agg #[.slice none 0 0, .slice none 0 0], .int .i64 6]) ?_ rfl ?_
        · simp (maxDischargeDepth := 8) [results, Tryz.results129, go_sem, *]
        exact ⟨by rw [HZ.out]; exact TgRes.no _ _ _, (by repeat' (first | exact Below.refl _ _ | (with_reducible first | assumption | exact Nat.le_refl _ | refine Below.alloc ?_ ?_ _ | refine Below.setCell ?_ ?_ _ | refine Below.drew ?_ | refine below_drewN ?_ _) | refine Below.trans ?_ (Below.mono (by assumption) ?_) | exact Below.size (by assumption) | omega | go_size | (simp at *; omega)))⟩
end Go.Proofs.YtgphkfnobmponaaGreat

/- Contracts of the functions that read texts of synchronous patterns: the reference's beats. -/
namespace Go.Proofs.YtgphkfnobmponaaGreat
open Go.RowKit
set_option linter.unusedVariables false

theorem rdB_split (l : List UInt8) : rdB l = if (splitL 41 l).getLastD [] = [] ∧ (splitL 41 l).length ≤ 7 then nonE (pS (splitL 41 l).dropLast) else none := by
  rw [rdB_nonE, pB_split 6]
  split <;> rfl
theorem Rd.str_at {w : World} {B n i : Nat} {A : Option Addr} {L : List ByteArray} (h : Rd w B 1 A n (strs L)) (hi : i < n) :
    ∃ b off x, A = some ⟨b, off, none⟩ ∧ b < B ∧ L[i]? = some x ∧ w.cell? ⟨b, off + i, none⟩ = some (.string x) := by
  have hl : L.length = n := by have := h.1; simp [strs] at this; omega
  obtain ⟨b, off, e, hb, hc⟩ := h.2 (by omega)
  obtain ⟨x, hx⟩ : ∃ x, L[i]? = some x := ⟨_, List.getElem?_eq_getElem (by omega)⟩
  exact ⟨b, off, x, e, hb, hx, hc _ _ (by simp [strs, hx])⟩
theorem nonE_gt (out : List Beat) : (nonE (some out)).isSome = decide (0 < out.length) ∧ ∀ q', nonE (some out) = some q' → q' = out := by
  cases out with
  | nil => exact ⟨rfl, fun q' h => by cases h⟩
  | cons b p => exact ⟨by simp [nonE], fun q' h => by injection h with h; exact h.symm⟩
/-- What is still to be read, part by part. -/
def RestS (out : List Beat) (ts : List (List UInt8)) (R : Option (List Beat)) : Prop := (pS ts).map (out ++ ·) = R
theorem RestS.start (ts : List (List UInt8)) : RestS [] ts (pS ts) := by show (pS ts).map _ = _; cases pS ts <;> rfl
theorem RestS.done {out : List Beat} {R : Option (List Beat)} (h : RestS out [] R) : R = some out := by rw [← h]; simp [pS]
theorem RestS.nil {out : List Beat} {ts : List (List UInt8)} {R : Option (List Beat)} (h : RestS out ([] :: ts) R) : R = none := by rw [← h]; rfl
theorem RestS.head {out : List Beat} {x : UInt8} {own : List UInt8} {ts : List (List UInt8)} {R : Option (List Beat)} (h : RestS out ((x :: own) :: ts) R) (hx : x ≠ 40) : R = none := by rw [← h, pS, if_neg hx]; rfl
theorem RestS.own {out : List Beat} {own : List UInt8} {ts : List (List UInt8)} {R : Option (List Beat)} (h : RestS out ((40 :: own) :: ts) R) (ho : rdOwn own = none) : R = none := by rw [← h, pS, if_pos rfl, ho]; rfl
theorem RestS.next {out : List Beat} {own : List UInt8} {ts : List (List UInt8)} {R : Option (List Beat)} {b : Beat} (h : RestS out ((40 :: own) :: ts) R) (ho : rdOwn own = some b) : RestS (out ++ [b]) ts R := by
  rw [← h, pS, if_pos rfl, ho]
  show (pS ts).map _ = _
  cases pS ts <;> simp
theorem dropLast_at {α : Type} {l : List α} {k : Nat} {x : α} (h : l[k]? = some x) (hk : k + 1 < l.length) : l.dropLast.drop k = x :: l.dropLast.drop (k + 1) := by
  have h1 : k < l.dropLast.length := by rw [List.length_dropLast]; omega
  rw [List.drop_eq_getElem_cons h1, List.getElem_dropLast]
  congr 1
  exact (List.getElem?_eq_some_iff.1 h).2
theorem getLastD_at {l : List (List UInt8)} {m : Nat} {x : List UInt8} (hl : l.length = m + 1) (h : l[m]? = some x) : l.getLastD [] = x := by
  rw [List.getLastD_eq_getLast?, List.getLast?_eq_getElem?, hl, show m + 1 - 1 = m by omega, h]; rfl
set_option maxRecDepth 100000 in
set_option maxHeartbeats 1000000 in
theorem l05Beats_any (s : ByteArray) (w : World) (hs : s.size ≤ 1099511627775) :
    Calls Tryz.prog 76 #[.string s] w fun e w' => BtRes w.heap.size (rdB (tl s)) e w' ∧ Below w.heap.size w w' := by
  have hC := l01Split_any s 41 w hs
  rw [rdB_split]
  have hpl := (splitL_len 41 (tl s)).2
  have hplen := (splitL_len 41 (tl s)).1
  have hne := splitL_ne 41 (tl s)
  rw [tl_len] at hpl hplen
  generalize splitL 41 (tl s) = P at *
  obtain ⟨RR, hRR⟩ : ∃ RR, (if P.getLastD [] = [] ∧ P.length ≤ 7 then nonE (pS P.dropLast) else none) = RR := ⟨_, rfl⟩
  rw [hRR]
  have HRR := hid hRR
  clear hRR
  have hC := hid hC
  have HPL := hid hpl
  clear hpl
  go_enter Tryz.func76, Tryz.ntmps76
  go_wp2_with fail
  refine hC.out.mono ?_
  rintro e w1 ⟨⟨v1, L, rfl, hL, hP⟩, hb1⟩
  have hln : L.length = P.length := by rw [← hP, List.length_map]
  obtain ⟨A, c, rfl⟩ := own_form hL
  obtain ⟨m, hm⟩ : ∃ m, L.length = m + 1 := ⟨L.length - 1, by omega⟩
  rw [hm] at hL ⊢
  have hR1 := Rd.of_own hL
  obtain ⟨b0, off, x, rfl, hb0l, hx, hcx⟩ := hR1.str_at (i := m) (by omega)
  have hPx : P[m]? = some (tl x) := by rw [← hP, List.getElem?_map, hx]; rfl
  have hlast := getLastD_at (by omega) hPx
  have hrr := HRR.out
  rw [hlast] at hrr
  clear HRR
  have hm0 : (m : Int) < (m : Int) + 1 := by omega
  have hmb : (m : Int) ≤ 1099511627775 := by omega
  have HR1 := hid hR1
  have HP := hid hP
  have HLL := hid hm
  have HLN := hid hln
  have hz1 := hb1.size
  by_cases he : tl x = []
  · have hxe : x.toList.isEmpty = true := by rw [tl_empty]; exact decide_eq_true he
    by_cases h7 : P.length ≤ 7
    · rw [if_pos ⟨he, h7⟩] at hrr
      have hq : ¬ (7 : Int) < (m : Int) + 1 := by omega
      have hst := hid (RestS.start P.dropLast)
      have hm7 : m ≤ 6 := by omega
      generalize pS P.dropLast = R at *
      have HQ := hid hrr
      clear hrr
      clear hC hL hP hR1 hx hPx hlast he h7 hm hln hne hplen
      go_wp2
      go_loopw [5, 6] (fun v i wr => Hid (∃ (k : Nat) (out : List Beat), i = .int .i64 k ∧ k ≤ m ∧ out.length = k ∧ Hid (RestS out (P.dropLast.drop k) R) ∧ wr.ownsRow w1.heap.size 95 4 v out.length (bts out) ∧ Below w1.heap.size w1 wr)) (fun _ i _ => m - (intOf i).toNat)
      case atStart => exact hid ⟨0, [], rfl, Nat.zero_le _, rfl, hst, World.ownsRow_lit _ _ 0 (Nat.le_refl _) (by simp [maxLen]) rfl, (by repeat' (first | exact Below.refl _ _ | (with_reducible first | assumption | exact Nat.le_refl _ | refine Below.alloc ?_ ?_ _ | refine Below.setCell ?_ ?_ _ | refine Below.drew ?_ | refine below_drewN ?_ _) | refine Below.trans ?_ (Below.mono (by assumption) ?_) | exact Below.size (by assumption) | omega | go_size | (simp at *; omega)))⟩
      case round =>
        obtain ⟨k, out, rfl, hk, hol, hR, ho, hbr⟩ := hrel.out
        clear hrel
        have hzr := hbr.size
        have hBr := bchain hb1 hbr
        by_cases hlt : k < m
        · obtain ⟨b1, off1, t, hA, hb1l, ht, hct⟩ := (HR1.out.below hbr (Nat.le_refl _)).str_at (i := k) (by omega)
          injection hA with hA
          injection hA with hA1 hA2
          subst hA1 hA2
          have hPt : P[k]? = some (tl t) := by rw [← HP.out, List.getElem?_map, ht]; rfl
          have hdr := dropLast_at hPt (by have := HLN.out; have := HLL.out; omega)
          rw [hdr] at hR
          have htz : t.size ≤ s.size := by rw [← tl_len]; exact HPL.out _ (List.mem_of_getElem? hPt)
          have hkm : (k : Int) < (m : Int) := by omega
          have hkm1 : (k : Int) < (m : Int) + 1 := by omega
          have hemp := tl_empty (s := t)
          cases htl : tl t with
          | nil =>
            have hte : t.toList.isEmpty = true := by rw [hemp]; exact decide_eq_true htl
            rw [htl] at hR
            have HZ := hid hR.out.nil
            clear hemp htl hR hdr ht hPt
            go_wp2
            go_ret2
            exact ⟨by rw [← HQ.out, HZ.out]; exact BtRes.no _ _, (by repeat' (first | exact Below.refl _ _ | (with_reducible first | assumption | exact Nat.le_refl _ | refine Below.alloc ?_ ?_ _ | refine Below.setCell ?_ ?_ _ | refine Below.drew ?_ | refine below_drewN ?_ _) | refine Below.trans ?_ (Below.mono (by assumption) ?_) | exact Below.size (by assumption) | omega | go_size | (simp at *; omega)))⟩
          | cons y r =>
            have hte : t.toList.isEmpty = false := by rw [hemp]; exact decide_eq_false (by rw [htl]; simp)
            have hts : 0 < t.size := by rw [← tl_len, htl]; simp
            have hx0 : t[0]'hts = y := by
              have h := tl_drop t 0 hts
              rw [List.drop_zero, htl] at h
              injection h with h _
              exact h.symm
            have hts2 : (0 : Int) < (t.size : Int) := by omega
            rw [htl] at hR
            by_cases hy : y = 40
            · subst hy
              have hq2 : (((t[0]'hts).toNat : Int) != 40) = false := by rw [hx0]; rfl
              obtain ⟨sub, hsub⟩ : ∃ sub, t.extract 1 t.size = sub := ⟨_, rfl⟩
              have hst2 : tl sub = r := by rw [← hsub, tl_extract, List.take_of_length_le (by rw [tl_len]; exact Nat.le_refl _), htl]; rfl
              have hsz : sub.size ≤ 1099511627775 := by rw [← hsub, ByteArray.size_extract]; omega
              have hts1 : (1 : Int) ≤ (t.size : Int) := by omega
              have hC2 := l01Split_any sub 44 wr hsz
              rw [hst2] at hC2
              have hpl2 := (splitL_len 44 r).2
              have hrl : r.length + 1 = t.size := by rw [← tl_len, htl]; rfl
              have HO := hid (fun ho => hR.out.own ho)
              have HN := hid (fun (b : Beat) ho => hR.out.next (b := b) ho)
              have HOW : Hid (rdOwn r = match splitL 44 r with | [a, b] => rdPair (rdT a) (rdT b) | _ => none) := (rdOwn_split r).symm
              generalize splitL 44 r = P2 at *
              have hC2 := hid hC2
              have HPL2 := hid hpl2
              clear hemp htl hR hst2 hx0 hdr ht hPt hpl2
              go_wp2_with fail
              refine hC2.out.mono ?_
              rintro e w2 ⟨⟨v2, L2, rfl, hL2, hP2⟩, hb2⟩
              have hB2 := bchain hBr hb2
              have ho2 := own_below ho hb2
              obtain ⟨A2, c2, rfl⟩ := own_form hL2
              clear hsub hC2 ho
              by_cases h2 : L2.length = 2
              · obtain ⟨x1, x2, rfl⟩ : ∃ x1 x2, L2 = [x1, x2] := by
                  match L2, h2 with
                  | [x1, x2], _ => exact ⟨x1, x2, rfl⟩
                have hR2 := Rd.of_own hL2
                obtain ⟨b2, off2, y1, rfl, hb2l, hy1, hcy1⟩ := hR2.str_at (i := 0) (by simp)
                obtain ⟨b3, off3, y2, hA, hb3l, hy2, hcy2⟩ := hR2.str_at (i := 1) (by simp)
                injection hA with hA
                injection hA with hA1 hA2
                subst hA1 hA2
                simp only [List.getElem?_cons_zero, List.getElem?_cons_succ, Option.some.injEq] at hy1 hy2
                subst hy1 hy2
                rw [Nat.add_zero] at hcy1
                simp only [List.map_cons, List.map_nil] at hP2
                have hz1 : x1.size ≤ 1099511627776 := by have := HPL2.out (tl x1) (by rw [← hP2]; simp); rw [tl_len] at this; omega
                have hz2 : x2.size ≤ 1099511627776 := by have := HPL2.out (tl x2) (by rw [← hP2]; simp); rw [tl_len] at this; omega
                have HOW2 : Hid (rdOwn r = rdPair (rdT (tl x1)) (rdT (tl x2))) := by show _ = _; rw [HOW.out, ← hP2]
                have hT1 := hid (fun w9 => l05Read_any x1 w9 hz1)
                have hT2 := hid (fun w9 => l05Read_any x2 w9 hz2)
                generalize rdT (tl x1) = o1 at *
                generalize rdT (tl x2) = o2 at *
                have hlen2 : (([x1, x2] : List ByteArray).length : Int) = 2 := rfl
                clear hP2 hL2 h2 hR2 HOW HPL2
                go_wp2_with fail
                refine (hT1.out _).mono ?_
                rintro e w3 ⟨⟨t1, rfl, ht1⟩, hb3⟩
                have hB3 := bchain hB2 hb3
                have ho3 := own_below ho2 hb3
                have hcy2' := (hb3.cell (p := ⟨b2, off2 + 1, none⟩) (by simp; omega)).trans hcy2
                have hb2w : b2 < w3.heap.size := by have := hb3.size; omega
                obtain ⟨p1, p2⟩ := t1
                clear hcy1 hcy2
                go_wp2_with fail
                refine (hT2.out _).mono ?_
                rintro e w4 ⟨⟨t2, rfl, ht2⟩, hb4⟩
                obtain ⟨r1, r2⟩ := t2
                have hv0 : w4.cell? ⟨w3.heap.size, 0, none⟩ = some (.int .i64 p1) := (hb4.cell (p := ⟨w3.heap.size, 0, none⟩) (by simp)).trans (by simp)
                have hv1 : w4.cell? ⟨w3.heap.size, 1, none⟩ = some (.bool p2) := (hb4.cell (p := ⟨w3.heap.size, 1, none⟩) (by simp)).trans (by simp)
                have hba : Below w3.heap.size w3 (w3.alloc (Obj.cells #[.int .i64 p1, .bool p2] 93)) := (by repeat' (first | exact Below.refl _ _ | (with_reducible first | assumption | exact Nat.le_refl _ | refine Below.alloc ?_ ?_ _ | refine Below.setCell ?_ ?_ _ | refine Below.drew ?_ | refine below_drewN ?_ _) | refine Below.trans ?_ (Below.mono (by assumption) ?_) | exact Below.size (by assumption) | omega | go_size | (simp at *; omega)))
                have hb34 : Below w3.heap.size w3 w4 := hba.trans (hb4.mono (by simp))
                have ho4 := own_below ho3 hb34
                have hB4 := bchain hB3 hb34
                have hz4 := hB4.size
                have hD4 := bchain (bchain (bchain hbr hb2) hb3) hb34
                have hz14 := hD4.size
                have hl34 : w3.heap.size < w4.heap.size := by have := hb4.size; simp at this; omega
                have HT1 := hid ht1
                have HT2 := hid ht2
                have HO4 := hid (fun o => ho4.alloc o)
                clear ho2 ho3 ho4 hb3 hb4 hba hb34 hT1 hT2 ht1 ht2 hcy2'
                have hBa : Below w.heap.size w (w4.alloc (Obj.cells #[.int .i64 r1, .bool r2] 93)) := (by repeat' (first | exact Below.refl _ _ | (with_reducible first | assumption | exact Nat.le_refl _ | refine Below.alloc ?_ ?_ _ | refine Below.setCell ?_ ?_ _ | refine Below.drew ?_ | refine below_drewN ?_ _) | refine Below.trans ?_ (Below.mono (by assumption) ?_) | exact Below.size (by assumption) | omega | go_size | (simp at *; omega)))
                have hBb : Below w1.heap.size w1 (w4.alloc (Obj.cells #[.int .i64 r1, .bool r2] 93)) := (by repeat' (first | exact Below.refl _ _ | (with_reducible first | assumption | exact Nat.le_refl _ | refine Below.alloc ?_ ?_ _ | refine Below.setCell ?_ ?_ _ | refine Below.drew ?_ | refine below_drewN ?_ _) | refine Below.trans ?_ (Below.mono (by assumption) ?_) | exact Below.size (by assumption) | omega | go_size | (simp at *; omega)))
                cases o1 with
                | none =>
                  have HZ : Hid (R = none) := HO.out (by rw [HOW2.out]; rfl)
                  go_wp2
                  go_ret2
                  exact ⟨by rw [← HQ.out, HZ.out]; exact BtRes.no _ _, hBa⟩
                | some u1 =>
                  cases o2 with
                  | none =>
                    have HZ : Hid (R = none) := HO.out (by rw [HOW2.out]; rfl)
                    go_wp2
                    go_ret2
                    exact ⟨by rw [← HQ.out, HZ.out]; exact BtRes.no _ _, hBa⟩
                  | some u2 =>
                    have e1 := HT1.out u1 rfl
                    have e2 := HT2.out u2 rfl
                    subst e1 e2
                    have HNX := hid (HN.out ((p1, p2), (r1, r2)) (by rw [HOW2.out]; rfl))
                    clear HT1 HT2 HN HO HOW2
                    go_wp2_with (at_builtin; refine push_bt (HO4.out _) p1 p2 r1 r2 _ rfl _ _ rfl rfl rfl (by first | rfl | simp) (by omega) (by simp; omega) ?_; intro v5 w5 ho5 hb5 hg5)
                    go_roundw
                    case rel => exact hid ⟨k + 1, out ++ [((p1, p2), (r1, r2))], by go_num, by omega, by rw [List.length_append, List.length_singleton, hol], HNX.out, ho5, hBb.trans hb5⟩
                    case measure => simp [intOf]; omega
              · have hq3 : ((L2.length : Int) != 2) = true := by simp; omega
                have HZ : Hid (R = none) := HO.out (by
                  rw [HOW.out]
                  have hl2 : P2.length ≠ 2 := by rw [← hP2, List.length_map]; exact h2
                  match P2, hl2 with
                  | [], _ => rfl
                  | [_], _ => rfl
                  | [_, _], h => exact absurd rfl h
                  | _ :: _ :: _ :: _, _ => rfl)
                clear hP2 hL2 h2 HOW HN HO HPL2
                go_wp2
                go_ret2
                exact ⟨by rw [← HQ.out, HZ.out]; exact BtRes.no _ _, hB2⟩
            · have hq2 : (((t[0]'hts).toNat : Int) != 40) = true := by
                rw [hx0]
                simp only [bne_iff_ne, ne_eq]
                intro e
                exact hy (UInt8.toNat_inj.1 (by have e : y.toNat = 40 := by omega
                                                rw [e]; rfl))
              have HZ := hid (hR.out.head hy)
              clear hemp htl hR hx0 hy hdr ht hPt
              go_wp2
              go_ret2
              exact ⟨by rw [← HQ.out, HZ.out]; exact BtRes.no _ _, hBr⟩
        · have hkm : k = m := by omega
          have hlen : P.dropLast.length = m := by rw [List.length_dropLast]; have := HLN.out; have := HLL.out; omega
          rw [List.drop_eq_nil_of_le (by omega)] at hR
          have HD := hid hR.out.done
          have HG := hid (nonE_gt out)
          have hq4 : ¬ (k : Int) < (m : Int) := by omega
          obtain ⟨A3, c3, rfl⟩ := own_form ho
          clear hR hlen hkm
          subst hol
          go_wp2
          go_ret2
          exact ⟨BtRes.mk (q := out) (by omega) (own_more ho (by omega)) (by rw [← HQ.out, HD.out]; exact HG.out.1) (by rw [← HQ.out, HD.out]; exact HG.out.2), (by repeat' (first | exact Below.refl _ _ | (with_reducible first | assumption | exact Nat.le_refl _ | refine Below.alloc ?_ ?_ _ | refine Below.setCell ?_ ?_ _ | refine Below.drew ?_ | refine below_drewN ?_ _) | refine Below.trans ?_ (Below.mono (by assumption) ?_) | exact Below.size (by assumption) | omega | go_size | (simp at *; omega)))⟩
    · rw [if_neg (fun h => h7 h.2)] at hrr
      subst hrr
      have hq : (7 : Int) < (m : Int) + 1 := by omega
      clear hC hL hP hR1 hx hPx hlast he h7 hm hln hne hplen
      go_wp2
      go_ret2
      exact ⟨BtRes.no _ _, (by repeat' (first | exact Below.refl _ _ | (with_reducible first | assumption | exact Nat.le_refl _ | refine Below.alloc ?_ ?_ _ | refine Below.setCell ?_ ?_ _ | refine Below.drew ?_ | refine below_drewN ?_ _) | refine Below.trans ?_ (Below.mono (by assumption) ?_) | exact Below.size (by assumption) | omega | go_size | (simp at *; omega)))⟩
  · rw [if_neg (fun h => he h.1)] at hrr
    subst hrr
    have hxe : x.toList.isEmpty = false := by rw [tl_empty]; exact decide_eq_false he
    clear hC hL hP hR1 hx hPx hlast he hm hln hne hplen
    go_wp2
    go_ret2
    exact ⟨BtRes.no _ _, (by repeat' (first | exact Below.refl _ _ | (with_reducible first | assumption | exact Nat.le_refl _ | refine Below.alloc ?_ ?_ _ | refine Below.setCell ?_ ?_ _ | refine Below.drew ?_ | refine below_drewN ?_ _) | refine Below.trans ?_ (Below.mono (by assumption) ?_) | exact Below.size (by assumption) | omega | go_size | (simp at *; omega)))⟩
end Go.Proofs.YtgphkfnobmponaaGreat
