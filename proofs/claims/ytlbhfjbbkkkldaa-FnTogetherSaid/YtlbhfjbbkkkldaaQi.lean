/- Contracts of the functions that make passing patterns: the reference's TogetherOf, l06Own, and l04Site, which draws. -/
import Derived.Test.YtlbhfjbbkkkldaaQd
import Derived.Test.YtlbhfjbbkkkldaaTn
import Derived.Deep.RegionWith
namespace Go.Proofs.Ytlbhfjbbkkkldaa
open Go.RowKit
set_option linter.unusedVariables false

theorem own_setq {w : World} {base e sz n : Nat} {v : Value} {xs : List Value} (h : w.ownsRow base e sz v n xs) {p : Addr} (hp : p.block < base) (u : Value) : (w.setCell p u).ownsRow base e sz v n xs := by
  refine ⟨h.1, ?_⟩
  rcases h.2 with hn | ⟨g, cap, cur, rfl, hg, hh, r⟩
  · exact .inl hn
  · exact .inr ⟨g, cap, cur, rfl, hg, by rw [Below.heap_setCell w p u g (by omega)]; exact hh, r⟩
def selfs (xs : List Int) : List PT := xs.map fun x => (x, false)
theorem selfs_len (xs : List Int) : (selfs xs).length = xs.length := by simp [selfs]
theorem selfs_step {xs : List Int} {k : Nat} {x : Int} (h : xs[k]? = some x) : selfs (xs.take (k + 1)) = selfs (xs.take k) ++ [(x, false)] := by
  rw [take_snoc h, selfs, List.map_append]; rfl
set_option maxRecDepth 100000 in
theorem l06Self_any (A : Option Addr) (n c : Nat) (xs : List Int) (w : World) (hn : n ≤ 1099511627775) (hr : Rd w w.heap.size 1 A n (ints xs)) :
    Calls Try.prog 100 #[.slice A n c] w fun e w' => ∃ v, e = .returned v ∧ w'.ownsRow w.heap.size 94 2 v (selfs xs).length (ths (selfs xs)) ∧ Below w.heap.size w w' := by
  have HL := hid hr.len
  have HR := hid hr
  clear hr
  go_enter Try.func100, Try.ntmps100
  go_wp2
  go_loopw [3, 4] (fun v i wr => Hid (∃ (k : Nat) (out : List PT), k ≤ n ∧ i = .int .i64 k ∧ Hid (out = selfs (xs.take k)) ∧ out.length ≤ n ∧ wr.ownsRow w.heap.size 94 2 v out.length (ths out) ∧ Below w.heap.size w wr)) (fun _ i _ => n - (intOf i).toNat)
  case atStart => exact hid ⟨0, [], Nat.zero_le _, rfl, rfl, Nat.zero_le _, World.ownsRow_lit _ _ 0 (Nat.le_refl _) (by simp [maxLen]) rfl, (by repeat' (first | exact Below.refl _ _ | (with_reducible assumption) | (with_reducible refine Below.alloc ?_ ?_ _) | (with_reducible refine Below.setCell ?_ ?_ _) | (with_reducible refine Below.drew ?_) | (with_reducible refine below_drewN ?_ _) | (refine Below.trans ?_ (Below.mono (by assumption) ?_)) | (with_reducible exact Nat.le_refl _) | (with_reducible assumption) | (exact Below.size (by assumption)) | omega | go_size | (simp at *; omega)))⟩
  case round =>
    obtain ⟨k, out, hk, rfl, ho, hol, hrow, hb0⟩ := hrel.out
    have hz := hb0.size
    clear hrel
    by_cases hlt : k < n
    · obtain ⟨b, off, x, rfl, hb, hx, hd, c0⟩ := (HR.out.below hb0 (Nat.le_refl _)).at_ hlt
      have HS : Hid (out ++ [(x, false)] = selfs (xs.take (k + 1))) := by show _ = _; rw [selfs_step hx, ho.out]
      have hl2 : Hid (out.length = k) := by show _ = _; rw [ho.out, selfs_len, List.length_take, HL.out]; omega
      clear hx hd ho
      go_wp2_with (at_builtin; refine push_th rfl inf_pt (by omega) hrow x false _ rfl _ _ rfl rfl rfl (by first | rfl | simp) (by omega) (by omega) ?_; intro v5 w5 ho5 hb5 hg5)
      go_roundw
      case rel => exact hid ⟨k + 1, out ++ [(x, false)], by omega, by go_num, HS, by rw [List.length_append, List.length_singleton, hl2.out]; omega, ho5, (by repeat' (first | exact Below.refl _ _ | (with_reducible assumption) | (with_reducible refine Below.alloc ?_ ?_ _) | (with_reducible refine Below.setCell ?_ ?_ _) | (with_reducible refine Below.drew ?_) | (with_reducible refine below_drewN ?_ _) | (refine Below.trans ?_ (Below.mono (by assumption) ?_)) | (with_reducible exact Nat.le_refl _) | (with_reducible assumption) | (exact Below.size (by assumption)) | omega | go_size | (simp at *; omega)))⟩
      case measure => simp [intOf]; omega
    · have HE : Hid (out = selfs xs) := by show _ = _; rw [ho.out, List.take_of_length_le (by rw [HL.out]; omega)]
      clear ho
      go_wp2
      go_ret
      exact ⟨_, rfl, by rw [← HE.out]; exact hrow, hb0⟩
def rTogetherOf (a b : List Int) : Psg × Int := if okP a && okP b then (if a.length = b.length then (if a.length ≤ 8 then ((selfs a, selfs b), 0) else (([], []), 5)) else (([], []), 6)) else (([], []), 1)
/-- A pattern of the call's own, its rows apart, and a code. -/
def TgRes (B : Nat) (r : Psg × Int) (e : Ending) (w : World) : Prop := ∃ A c A' c', (A = none → c = 0) ∧ (A' = none → c' = 0) ∧ e = .returned (.tuple #[.agg #[.slice A r.1.1.length c, .slice A' r.1.2.length c'], .int .i64 r.2]) ∧ w.ownsRow B 94 2 (.slice A r.1.1.length c) r.1.1.length (ths r.1.1) ∧ w.ownsRow B 94 2 (.slice A' r.1.2.length c') r.1.2.length (ths r.1.2) ∧ ∀ g, A = some ⟨g, 0, none⟩ → A' = some ⟨g, 0, none⟩ → False
theorem TgRes.no (B : Nat) (w : World) (x : Int) : TgRes B (([], []), x) (.returned (.tuple #[.agg #[.slice none 0 0, .slice none 0 0], .int .i64 x])) w := ⟨none, 0, none, 0, fun _ => rfl, fun _ => rfl, rfl, World.ownsRow_nil _ _ _ _, World.ownsRow_nil _ _ _ _, fun g h => by cases h⟩
set_option maxRecDepth 100000 in
set_option maxHeartbeats 4000000 in
theorem specTogetherOf_any (A A2 : Option Addr) (n c m d : Nat) (a b : List Int) (w : World) (hn : n ≤ 1099511627775) (hm : m ≤ 1099511627775) (hr : Rd w w.heap.size 1 A n (ints a)) (hs : Rd w w.heap.size 1 A2 m (ints b)) :
    Calls Try.prog 28 #[.slice A n c, .slice A2 m d] w fun e w' => TgRes w.heap.size (rTogetherOf a b) e w' ∧ Below w.heap.size w w' := by
  have l1 := hr.len
  have l2 := hs.len
  have hbx : Below w.heap.size w (w.alloc (Obj.cells #[.slice none 0 0, .slice none 0 0] 35)) := (by repeat' (first | exact Below.refl _ _ | (with_reducible assumption) | (with_reducible refine Below.alloc ?_ ?_ _) | (with_reducible refine Below.setCell ?_ ?_ _) | (with_reducible refine Below.drew ?_) | (with_reducible refine below_drewN ?_ _) | (refine Below.trans ?_ (Below.mono (by assumption) ?_)) | (with_reducible exact Nat.le_refl _) | (with_reducible assumption) | (exact Below.size (by assumption)) | omega | go_size | (simp at *; omega)))
  have hX := Bx.new w 35 #[.slice none 0 0, .slice none 0 0]
  have hV1 := l02Ok_any A n c a _ (by omega) ((hr.below hbx (Nat.le_refl _)).more hbx.size)
  have hV2 := hid (fun (w9 : World) (b9 : Below w.heap.size w w9) => l02Ok_any A2 m d b w9 (by omega) ((hs.below b9 (Nat.le_refl _)).more b9.size))
  have hS1 := hid (fun (w9 : World) (b9 : Below w.heap.size w w9) => l06Self_any A n c a w9 hn ((hr.below b9 (Nat.le_refl _)).more b9.size))
  have hS2 := hid (fun (w9 : World) (b9 : Below w.heap.size w w9) => l06Self_any A2 m d b w9 hm ((hs.below b9 (Nat.le_refl _)).more b9.size))
  clear hr hs
  cases ha : okP a with
  | false =>
    have HZ : Hid (rTogetherOf a b = (([], []), 1)) := by show _ = _; rw [rTogetherOf, ha]; rfl
    rw [ha] at hV1
    have hV1 := hid hV1
    clear ha l1 l2
    go_enter Try.func28, Try.ntmps28
    go_wp2_with fail
    refine hV1.out.mono ?_
    rintro e w1 ⟨rfl, hb1⟩
    have hX1 := hX.below hb1 hX.lt
    have z1 := hb1.size
    have hgr : w.heap.size < w1.heap.size := by simp at z1; omega
    have e0 := hX1.cell 0
    have e1 := hX1.cell 1
    have f0 := hX1.frozen 0
    have f1 := hX1.frozen 1
    replace e0 : w1.cell? ⟨w.heap.size, 0, none⟩ = some (.slice none 0 0) := e0
    replace e1 : w1.cell? ⟨w.heap.size, 1, none⟩ = some (.slice none 0 0) := e1
    have hB1 : Below w.heap.size w w1 := (by repeat' (first | exact Below.refl _ _ | (with_reducible assumption) | (with_reducible refine Below.alloc ?_ ?_ _) | (with_reducible refine Below.setCell ?_ ?_ _) | (with_reducible refine Below.drew ?_) | (with_reducible refine below_drewN ?_ _) | (refine Below.trans ?_ (Below.mono (by assumption) ?_)) | (with_reducible exact Nat.le_refl _) | (with_reducible assumption) | (exact Below.size (by assumption)) | omega | go_size | (simp at *; omega)))
    clear hX hX1 hb1
    go_wp2
    refine bodyPost_ret (v := .tuple #[.agg #[.slice none 0 0, .slice none 0 0], .int .i64 1]) ?_ rfl ?_
    · simp (maxDischargeDepth := 8) [results, Try.results28, go_sem, *]
    exact ⟨by rw [HZ.out]; exact TgRes.no _ _ _, (by repeat' (first | exact Below.refl _ _ | (with_reducible assumption) | (with_reducible refine Below.alloc ?_ ?_ _) | (with_reducible refine Below.setCell ?_ ?_ _) | (with_reducible refine Below.drew ?_) | (with_reducible refine below_drewN ?_ _) | (refine Below.trans ?_ (Below.mono (by assumption) ?_)) | (with_reducible exact Nat.le_refl _) | (with_reducible assumption) | (exact Below.size (by assumption)) | omega | go_size | (simp at *; omega)))⟩
  | true =>
    rw [ha] at hV1
    have hV1 := hid hV1
    have HA := hid ha
    clear ha
    go_enter Try.func28, Try.ntmps28
    go_wp2_with fail
    refine hV1.out.mono ?_
    rintro e w1 ⟨rfl, hb1⟩
    have hX1 := hX.below hb1 hX.lt
    have z1 := hb1.size
    have hB1 : Below w.heap.size w w1 := (by repeat' (first | exact Below.refl _ _ | (with_reducible assumption) | (with_reducible refine Below.alloc ?_ ?_ _) | (with_reducible refine Below.setCell ?_ ?_ _) | (with_reducible refine Below.drew ?_) | (with_reducible refine below_drewN ?_ _) | (refine Below.trans ?_ (Below.mono (by assumption) ?_)) | (with_reducible exact Nat.le_refl _) | (with_reducible assumption) | (exact Below.size (by assumption)) | omega | go_size | (simp at *; omega)))
    have hV2 := hV2.out w1 hB1
    clear hb1 hX hV1
    cases hb : okP b with
    | false =>
      have HZ : Hid (rTogetherOf a b = (([], []), 1)) := by show _ = _; rw [rTogetherOf, HA.out, hb]; rfl
      rw [hb] at hV2
      have hV2 := hid hV2
      clear hb l1 l2
      go_wp2_with fail
      refine hV2.out.mono ?_
      rintro e w2 ⟨rfl, hb2⟩
      have hX2 := hX1.below hb2 hX1.lt
      have z2 := hb2.size
      have hgr : w.heap.size < w2.heap.size := by simp at z1; omega
      have e0 := hX2.cell 0
      have e1 := hX2.cell 1
      have f0 := hX2.frozen 0
      have f1 := hX2.frozen 1
      replace e0 : w2.cell? ⟨w.heap.size, 0, none⟩ = some (.slice none 0 0) := e0
      replace e1 : w2.cell? ⟨w.heap.size, 1, none⟩ = some (.slice none 0 0) := e1
      have hB2 : Below w.heap.size w w2 := (by repeat' (first | exact Below.refl _ _ | (with_reducible assumption) | (with_reducible refine Below.alloc ?_ ?_ _) | (with_reducible refine Below.setCell ?_ ?_ _) | (with_reducible refine Below.drew ?_) | (with_reducible refine below_drewN ?_ _) | (refine Below.trans ?_ (Below.mono (by assumption) ?_)) | (with_reducible exact Nat.le_refl _) | (with_reducible assumption) | (exact Below.size (by assumption)) | omega | go_size | (simp at *; omega)))
      clear hX1 hX2 hb2
      go_wp2
      refine bodyPost_ret (v := .tuple #[.agg #[.slice none 0 0, .slice none 0 0], .int .i64 1]) ?_ rfl ?_
      · simp (maxDischargeDepth := 8) [results, Try.results28, go_sem, *]
      exact ⟨by rw [HZ.out]; exact TgRes.no _ _ _, (by repeat' (first | exact Below.refl _ _ | (with_reducible assumption) | (with_reducible refine Below.alloc ?_ ?_ _) | (with_reducible refine Below.setCell ?_ ?_ _) | (with_reducible refine Below.drew ?_) | (with_reducible refine below_drewN ?_ _) | (refine Below.trans ?_ (Below.mono (by assumption) ?_)) | (with_reducible exact Nat.le_refl _) | (with_reducible assumption) | (exact Below.size (by assumption)) | omega | go_size | (simp at *; omega)))⟩
    | true =>
      rw [hb] at hV2
      have hV2 := hid hV2
      have HRT : rTogetherOf a b = (if a.length = b.length then (if a.length ≤ 8 then ((selfs a, selfs b), 0) else (([], []), 5)) else (([], []), 6)) := by rw [rTogetherOf, HA.out, hb]; rfl
      rw [l1, l2] at HRT
      clear hb
      go_wp2_with fail
      refine hV2.out.mono ?_
      rintro e w2 ⟨rfl, hb2⟩
      have hX2 := hX1.below hb2 hX1.lt
      have z2 := hb2.size
      have hgr : w.heap.size < w2.heap.size := by simp at z1; omega
      have e0 := hX2.cell 0
      have e1 := hX2.cell 1
      have f0 := hX2.frozen 0
      have f1 := hX2.frozen 1
      replace e0 : w2.cell? ⟨w.heap.size, 0, none⟩ = some (.slice none 0 0) := e0
      replace e1 : w2.cell? ⟨w.heap.size, 1, none⟩ = some (.slice none 0 0) := e1
      have hB2 : Below w.heap.size w w2 := (by repeat' (first | exact Below.refl _ _ | (with_reducible assumption) | (with_reducible refine Below.alloc ?_ ?_ _) | (with_reducible refine Below.setCell ?_ ?_ _) | (with_reducible refine Below.drew ?_) | (with_reducible refine below_drewN ?_ _) | (refine Below.trans ?_ (Below.mono (by assumption) ?_)) | (with_reducible exact Nat.le_refl _) | (with_reducible assumption) | (exact Below.size (by assumption)) | omega | go_size | (simp at *; omega)))
      clear hX1 hb2 l1 l2 hV2
      by_cases hnm : n = m
      · rw [if_pos hnm] at HRT
        subst hnm
        by_cases h8 : n ≤ 8
        · rw [if_pos h8] at HRT
          have HZ := hid HRT
          have hq : ¬ (8 : Int) < (n : Int) := by omega
          have hS1 := hid (hS1.out w2 hB2)
          clear HRT
          go_wp2_with fail
          refine hS1.out.mono ?_
          rintro e w3 ⟨v3, rfl, ho3, hb3⟩
          have hB3 := bchain hB2 hb3
          have hX3 := hX2.below hb3 hX2.lt
          have z3 := hb3.size
          obtain ⟨A3, c3, rfl, hA3⟩ := own_formA ho3
          have hS2 := hid (hS2.out w3 hB3)
          clear e0 e1 f0 f1 hX2 hS1
          go_wp2_with fail
          refine hS2.out.mono ?_
          rintro e w4 ⟨v4, rfl, ho4, hb4⟩
          have hB4 := bchain hB3 hb4
          have hX4 := hX3.below hb4 hX3.lt
          obtain ⟨A4, c4, rfl, hA4⟩ := own_formA ho4
          have z4 := hb4.size
          have hap : ∀ g, A3 = some ⟨g, 0, none⟩ → A4 = some ⟨g, 0, none⟩ → False := fun g h h' => by
            subst h h'
            have h1 := (ho3.lt g rfl).2
            have h2 := (ho4.lt g rfl).1
            omega
          replace ho3 := own_below ho3 hb4
          have e0 := hX4.cell 0
          have e1 := hX4.cell 1
          have f0 := hX4.frozen 0
          have f1 := hX4.frozen 1
          replace e0 : w4.cell? ⟨w.heap.size, 0, none⟩ = some (.slice none 0 0) := e0
          replace e1 : w4.cell? ⟨w.heap.size, 1, none⟩ = some (.slice none 0 0) := e1
          have HO3 := hid ho3
          have HO4 := hid ho4
          have HAP := hid hap
          clear hX3 hX4 hS2 ho3 ho4 hap hb3 hb4
          go_wp2
          refine bodyPost_ret (v := .tuple #[.agg #[.slice A3 (selfs a).length c3, .slice A4 (selfs b).length c4], .int .i64 0]) ?_ rfl ?_
          · simp (maxDischargeDepth := 8) [results, Try.results28, go_sem, *]
          refine ⟨?_, (by repeat' (first | exact Below.refl _ _ | (with_reducible assumption) | (with_reducible refine Below.alloc ?_ ?_ _) | (with_reducible refine Below.setCell ?_ ?_ _) | (with_reducible refine Below.drew ?_) | (with_reducible refine below_drewN ?_ _) | (refine Below.trans ?_ (Below.mono (by assumption) ?_)) | (with_reducible exact Nat.le_refl _) | (with_reducible assumption) | (exact Below.size (by assumption)) | omega | go_size | (simp at *; omega)))⟩
          rw [HZ.out]
          exact ⟨A3, c3, A4, c4, hA3, hA4, rfl, own_more (own_setq (own_setq HO3.out (p := ⟨w.heap.size, 0, none⟩) (by show w.heap.size < _; omega) _) (p := ⟨w.heap.size, 1, none⟩) (by show w.heap.size < _; omega) _) (by omega), own_more (own_setq (own_setq HO4.out (p := ⟨w.heap.size, 0, none⟩) (by show w.heap.size < _; omega) _) (p := ⟨w.heap.size, 1, none⟩) (by show w.heap.size < _; omega) _) (by omega), HAP.out⟩
        · rw [if_neg h8] at HRT
          have HZ := hid HRT
          have hq : (8 : Int) < (n : Int) := by omega
          clear HRT
          go_wp2
          refine bodyPost_ret (v := .tuple #[.agg #[.slice none 0 0, .slice none 0 0], .int .i64 5]) ?_ rfl ?_
          · simp (maxDischargeDepth := 8) [results, Try.results28, go_sem, *]
          exact ⟨by rw [HZ.out]; exact TgRes.no _ _ _, (by repeat' (first | exact Below.refl _ _ | (with_reducible assumption) | (with_reducible refine Below.alloc ?_ ?_ _) | (with_reducible refine Below.setCell ?_ ?_ _) | (with_reducible refine Below.drew ?_) | (with_reducible refine below_drewN ?_ _) | (refine Below.trans ?_ (Below.mono (by assumption) ?_)) | (with_reducible exact Nat.le_refl _) | (with_reducible assumption) | (exact Below.size (by assumption)) | omega | go_size | (simp at *; omega)))⟩
      · rw [if_neg hnm] at HRT
        have HZ := hid HRT
        have hq : ((n : Int) != (m : Int)) = true := by simp; omega
        clear HRT hnm
        go_wp2
        refine bodyPost_ret (v := .tuple #[.agg #[.slice none 0 0, .slice none 0 0], .int .i64 6]) ?_ rfl ?_
        · simp (maxDischargeDepth := 8) [results, Try.results28, go_sem, *]
        exact ⟨by rw [HZ.out]; exact TgRes.no _ _ _, (by repeat' (first | exact Below.refl _ _ | (with_reducible assumption) | (with_reducible refine Below.alloc ?_ ?_ _) | (with_reducible refine Below.setCell ?_ ?_ _) | (with_reducible refine Below.drew ?_) | (with_reducible refine below_drewN ?_ _) | (refine Below.trans ?_ (Below.mono (by assumption) ?_)) | (with_reducible exact Nat.le_refl _) | (with_reducible assumption) | (exact Below.size (by assumption)) | omega | go_size | (simp at *; omega)))⟩
end Go.Proofs.Ytlbhfjbbkkkldaa
