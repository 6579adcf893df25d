/- The text: Nd. -/
import Derived.Test.YtgphkfnobmponaaGreatNk
import Derived.Test.YtgphkfnobmponaaGreatG21
import Derived.Test.YtgphkfnobmponaaGreatG10
/- Contracts of the reference's readers of multiplex patterns: l04Beat, l04Read, ReadMulti. -/
namespace Go.Proofs.YtgphkfnobmponaaGreat
open Go.RowKit
set_option linter.unusedVariables false

/-- The beat at the beginning of a text, of the call's own. -/
def BeRes (B N : Nat) (r : Option (List Int × List UInt8)) (e : Ending) (w : World) : Prop := ∃ (q : List Int) (v : Value) (t : ByteArray), q.length ≤ N ∧ e = .returned (.tuple #[v, .string t, .bool r.isSome]) ∧ w.ownsRow B 2 1 v q.length (ints q) ∧ ∀ q' rest, r = some (q', rest) → q' = q ∧ tl t = rest
theorem BeRes.no (B N : Nat) (w : World) : BeRes B N none (.returned (.tuple #[.slice none 0 0, .string ⟨#[]⟩, .bool false])) w := ⟨[], _, _, Nat.zero_le _, rfl, World.ownsRow_nil _ _ _ _, (fun q r h => by cases h)⟩
theorem bt1_of_ne {c : UInt8} {r : List UInt8} (h : c ≠ 91) : bt1 (c :: r) = if rDig (c.toNat : Int) < 0 then none else some ([rDig (c.toNat : Int)], r) := by rw [bt1, if_neg h]
theorem btIn_ne {l : List Int} {c : UInt8} {r : List UInt8} (h : c ≠ 93) : btIn l (c :: r) = if rDig (c.toNat : Int) < 0 then none else btIn (l ++ [rDig (c.toNat : Int)]) r := by rw [btIn, if_neg h]
theorem btIn_cl {l : List Int} {r : List UInt8} : btIn l (93 :: r) = if 1 < l.length then some (l, r) else none := by rw [btIn, if_pos rfl]
set_option maxRecDepth 100000 in
set_option maxHeartbeats 2000000 in
theorem l04Beat_any (s : ByteArray) (w : World) (h0 : 0 < s.size) (hs : s.size ≤ 1099511627775) :
    Calls Tryz.prog 110 #[.string s] w fun e w' => BeRes w.heap.size s.size (bt1 (tl s)) e w' ∧ Below w.heap.size w w' := by
  have hts := tl_drop s 0 h0
  rw [List.drop_zero] at hts
  have h0I : (0 : Int) < (s.size : Int) := by omega
  by_cases h91 : s[0]'h0 = 91
  · have hq : (((s[0]'h0).toNat : Int) == 91) = true := by rw [h91]; rfl
    have hqn : (((s[0]'h0).toNat : Int) != 91) = false := by rw [h91]; rfl
    have hst : Hid (btIn [] ((tl s).drop 1) = bt1 (tl s)) := by show _ = _; rw [hts, bt1, if_pos h91]; rfl
    generalize bt1 (tl s) = R at *
    clear hts h91
    go_enter Tryz.func110, Tryz.ntmps110
    go_wp2
    clear hqn
    go_loopw [6, 7] (fun v i wr => Hid (∃ (j : Nat) (row : List Int), j ≤ s.size ∧ Hid (row.length + 1 = j) ∧ i = .int .i64 j ∧ Hid (btIn row ((tl s).drop j) = R) ∧ wr.ownsRow w.heap.size 2 1 v row.length (ints row) ∧ Below w.heap.size w wr)) (fun _ i _ => s.size - (intOf i).toNat)
    case atStart => exact hid ⟨1, [], by omega, rfl, rfl, hst, World.ownsRow_lit _ _ 0 (Nat.le_refl _) (by simp [maxLen]) rfl, (by repeat' (first | exact Below.refl _ _ | (with_reducible first | assumption | exact Nat.le_refl _ | refine Below.alloc ?_ ?_ _ | refine Below.setCell ?_ ?_ _ | refine Below.drew ?_ | refine below_drewN ?_ _) | refine Below.trans ?_ (Below.mono (by assumption) ?_) | exact Below.size (by assumption) | omega | go_size | (simp at *; omega)))⟩
    case round =>
      clear hst hq
      obtain ⟨j, row, hj, hkj, rfl, hi, ho, hb0⟩ := hrel.out
      clear hrel
      have hz0 := hb0.size
      obtain ⟨A6, c6, rfl⟩ := own_form ho
      have hrl6 : row.length + 1 ≤ s.size := by have := hkj.out; omega
      by_cases hjl : j < s.size
      · have hi1 := hi.out
        rw [tl_drop s j hjl] at hi1
        by_cases h93 : s[j]'hjl = 93
        · have hq : (((s[j]'hjl).toNat : Int) == 93) = true := by rw [h93]; rfl
          rw [h93, btIn_cl] at hi1
          have hj1 : IntKind.i64.wrap ((j : Int) + 1) = ((j + 1 : Nat) : Int) := by rw [show (j : Int) + 1 = ((j + 1 : Nat) : Int) by omega]; exact IntWalk.i64_in _ (by omega)
          have hj2 : ((j + 1 : Nat) : Int) ≤ (s.size : Int) := by omega
          have hj0 : (0 : Int) ≤ ((j + 1 : Nat) : Int) := by omega
          have HT : Hid (tl (s.extract (j + 1) s.size) = (tl s).drop (j + 1)) := by show _ = _; rw [tl_extract, List.take_of_length_le (by rw [tl_len]; omega)]
          by_cases h2 : 1 < row.length
          · rw [if_pos h2] at hi1
            have h2I : (1 : Int) < (row.length : Int) := by omega
            have HI := hid hi1
            clear hi h93 hi1 h2
            go_wp2
            go_quiet (fail)
            go_wp2
            go_ret3
            exact ⟨⟨row, .slice A6 row.length c6, s.extract (j + 1) s.size, by omega, by rw [← HI.out]; rfl, ho, fun q r h => by rw [← HI.out] at h; injection h with h; injection h with h1 h2; subst h1; subst h2; exact ⟨rfl, HT.out⟩⟩, (by repeat' (first | exact Below.refl _ _ | (with_reducible first | assumption | exact Nat.le_refl _ | refine Below.alloc ?_ ?_ _ | refine Below.setCell ?_ ?_ _ | refine Below.drew ?_ | refine below_drewN ?_ _) | refine Below.trans ?_ (Below.mono (by assumption) ?_) | exact Below.size (by assumption) | omega | go_size | (simp at *; omega)))⟩
          · rw [if_neg h2] at hi1
            have h2I : ¬ (1 : Int) < (row.length : Int) := by omega
            have HI := hid hi1
            clear hi h93 hi1 h2
            go_wp2
            go_quiet (fail)
            go_wp2
            go_ret3
            exact ⟨⟨row, .slice A6 row.length c6, s.extract (j + 1) s.size, by omega, by rw [← HI.out]; show Ending.returned (.tuple #[.slice A6 row.length c6, .string (s.extract (j + 1) s.size), .bool (decide ((1 : Int) < (row.length : Int)))]) = _; rw [decide_eq_false (show ¬ (1 : Int) < (row.length : Int) by omega)]; rfl, ho, fun q r h => by rw [← HI.out] at h; cases h⟩, (by repeat' (first | exact Below.refl _ _ | (with_reducible first | assumption | exact Nat.le_refl _ | refine Below.alloc ?_ ?_ _ | refine Below.setCell ?_ ?_ _ | refine Below.drew ?_ | refine below_drewN ?_ _) | refine Below.trans ?_ (Below.mono (by assumption) ?_) | exact Below.size (by assumption) | omega | go_size | (simp at *; omega)))⟩
        · have hq : (((s[j]'hjl).toNat : Int) == 93) = false := by rw [show (93 : Int) = ((93 : UInt8).toNat : Int) from rfl, u8q]; exact decide_eq_false h93
          rw [btIn_ne h93] at hi1
          have hby : ((s[j]'hjl).toNat : Int) ≤ 255 := by have := (s[j]'hjl).toNat_lt; omega
          have hby0 : 0 ≤ ((s[j]'hjl).toNat : Int) := by omega
          have hD := hid (l04Value_any ((s[j]'hjl).toNat : Int) hby0 hby wr)
          generalize rDig ((s[j]'hjl).toNat : Int) = d at *
          by_cases hd0 : d < 0
          · rw [if_pos hd0] at hi1
            clear hi h93
            go_wp2_with (go_at_call 72; refine (hD.out).mono ?_; rintro e w' ⟨rfl, rfl⟩)
            go_ret3
            exact ⟨by rw [← hi1]; exact BeRes.no _ _ _, hb0⟩
          · rw [if_neg hd0] at hi1
            have HI := hid hi1
            clear hi h93 hi1
            go_wp2_with (first | (go_at_call 72; refine (hD.out).mono ?_; rintro e w' ⟨rfl, rfl⟩) | (at_builtin; refine push_int ho (d) _ Tryz.underlying24 inf_int rfl rfl _ _ rfl rfl rfl (by omega) (by omega) ?_; intro v1 w1 ho1 hb1 hg1))
            go_roundw
            case rel => exact hid ⟨j + 1, row ++ [d], by omega, by show _ = _; have := hkj.out; rw [List.length_append, List.length_singleton]; omega, by go_num, HI, by simpa using ho1, (by repeat' (first | exact Below.refl _ _ | (with_reducible first | assumption | exact Nat.le_refl _ | refine Below.alloc ?_ ?_ _ | refine Below.setCell ?_ ?_ _ | refine Below.drew ?_ | refine below_drewN ?_ _) | refine Below.trans ?_ (Below.mono (by assumption) ?_) | exact Below.size (by assumption) | omega | go_size | (simp at *; omega)))⟩
            case measure => simp [intOf]; omega
      · have hi1 := hi.out
        rw [List.drop_eq_nil_of_le (by rw [tl_len]; omega)] at hi1
        clear hi
        go_wp2
        go_ret3
        exact ⟨by rw [← hi1]; exact BeRes.no _ _ _, hb0⟩
  · have hq : (((s[0]'h0).toNat : Int) == 91) = false := by rw [show (91 : Int) = ((91 : UInt8).toNat : Int) from rfl, u8q]; exact decide_eq_false h91
    have HT : Hid (tl (s.extract 1 s.size) = (tl s).drop 1) := by show _ = _; rw [tl_extract, List.take_of_length_le (by rw [tl_len]; omega)]
    have hst : Hid (bt1 (tl s) = if rDig ((s[0]'h0).toNat : Int) < 0 then none else some ([rDig ((s[0]'h0).toNat : Int)], (tl s).drop 1)) := by show _ = _; rw [hts, bt1_of_ne h91]; rfl
    generalize bt1 (tl s) = R at *
    have hby : ((s[0]'h0).toNat : Int) ≤ 255 := by have := (s[0]'h0).toNat_lt; omega
    have hby0 : 0 ≤ ((s[0]'h0).toNat : Int) := by omega
    have hD := hid (l04Value_any ((s[0]'h0).toNat : Int) hby0 hby w)
    generalize rDig ((s[0]'h0).toNat : Int) = d at *
    have h1s : (1 : Int) ≤ (s.size : Int) := by omega
    have HO : Hid ((w.alloc (Obj.cells #[.int .i64 d] 2)).ownsRow w.heap.size 2 1 (.slice (some ⟨w.heap.size, 0, none⟩) 1 1) [d].length (ints [d])) := World.ownsRow_lit _ _ 1 (Nat.le_refl _) (by simp [maxLen]) rfl
    obtain ⟨b, hb⟩ : ∃ b, decide (0 ≤ d) = b := ⟨_, rfl⟩
    have HS : Hid (R.isSome = b ∧ ∀ q r, R = some (q, r) → q = [d] ∧ (tl s).drop 1 = r) := by
      show _ ∧ _
      rw [hst.out, ← hb]
      by_cases hd0 : d < 0
      · rw [if_pos hd0]; exact ⟨by simp; omega, fun q r h => by cases h⟩
      · rw [if_neg hd0]; exact ⟨by simp; omega, fun q r h => by injection h with h; injection h with h1 h2; exact ⟨h1.symm, h2⟩⟩
    cases b with
    | true =>
      have hd0 : (0 : Int) ≤ d := of_decide_eq_true hb
      clear hts hst h91 hb
      go_enter Tryz.func110, Tryz.ntmps110
      go_wp2_with (go_at_call 72; refine (hD.out).mono ?_; rintro e w' ⟨rfl, rfl⟩)
      go_region
      go_wp2
      go_ret3
      exact ⟨⟨[d], .slice (some ⟨w.heap.size, 0, none⟩) 1 1, s.extract 1 s.size, by simp; omega, by rw [HS.out.1]; first | rfl | (show Ending.returned (.tuple #[.slice (some ⟨w.heap.size, 0, none⟩) 1 1, .string (s.extract 1 s.size), .bool (decide ((0 : Int) ≤ d))]) = _; rw [decide_eq_true (show (0 : Int) ≤ d by omega)]; rfl), HO.out, fun q r h => by obtain ⟨h1, h2⟩ := HS.out.2 q r h; exact ⟨h1, HT.out.trans h2⟩⟩, (by repeat' (first | exact Below.refl _ _ | (with_reducible first | assumption | exact Nat.le_refl _ | refine Below.alloc ?_ ?_ _ | refine Below.setCell ?_ ?_ _ | refine Below.drew ?_ | refine below_drewN ?_ _) | refine Below.trans ?_ (Below.mono (by assumption) ?_) | exact Below.size (by assumption) | omega | go_size | (simp at *; omega)))⟩
    | false =>
      have hd0 : ¬ (0 : Int) ≤ d := of_decide_eq_false hb
      clear hts hst h91 hb
      go_enter Tryz.func110, Tryz.ntmps110
      go_wp2_with (go_at_call 72; refine (hD.out).mono ?_; rintro e w' ⟨rfl, rfl⟩)
      go_region
      go_wp2
      go_ret3
      exact ⟨⟨[d], .slice (some ⟨w.heap.size, 0, none⟩) 1 1, s.extract 1 s.size, by simp; omega, by rw [HS.out.1]; first | rfl | (show Ending.returned (.tuple #[.slice (some ⟨w.heap.size, 0, none⟩) 1 1, .string (s.extract 1 s.size), .bool (decide ((0 : Int) ≤ d))]) = _; rw [decide_eq_false (show ¬ (0 : Int) ≤ d by omega)]), HO.out, fun q r h => by obtain ⟨h1, h2⟩ := HS.out.2 q r h; exact ⟨h1, HT.out.trans h2⟩⟩, (by repeat' (first | exact Below.refl _ _ | (with_reducible first | assumption | exact Nat.le_refl _ | refine Below.alloc ?_ ?_ _ | refine Below.setCell ?_ ?_ _ | refine Below.drew ?_ | refine below_drewN ?_ _) | refine Below.trans ?_ (Below.mono (by assumption) ?_) | exact Below.size (by assumption) | omega | go_size | (simp at *; omega)))⟩
/-- Beats that are read, whatever their throws: which they are if they have the form. -/
def LrRes (B N : Nat) (r : Option (List (List Int))) (e : Ending) (w : World) : Prop := ∃ (q : List (List Int)) (A : Option Addr) (c : Nat) (ok : Bool), q.length ≤ 12 ∧ (∀ x ∈ q, x.length ≤ N) ∧ e = .returned (.tuple #[.agg #[.slice A q.length c], .bool ok]) ∧ Grid w B w.heap.size (.slice A q.length c) q ∧ (ok = true → r = shp (some q)) ∧ (ok = false → r = none)
theorem LrRes.no (B N : Nat) (w : World) : LrRes B N none (.returned (.tuple #[.agg #[.slice none 0 0], .bool false])) w := ⟨[], none, 0, false, by simp, (fun x h => by cases h), rfl, Grid.nil _ _ _, (fun h => (by cases h)), (fun _ => rfl)⟩
set_option maxRecDepth 100000 in
set_option maxHeartbeats 2000000 in
theorem l04Read_any (s : ByteArray) (w : World) (hs : s.size ≤ 1099511627775) :
    Calls Tryz.prog 74 #[.string s] w fun e w' => LrRes w.heap.size s.size (rdM (tl s)) e w' ∧ Below w.heap.size w w' := by
  have hst : Hid (mpR [] none (tl s) = mprs none (tl s)) := mpR_start _
  rw [rdM]
  generalize mprs none (tl s) = R at *
  have hXX : (w.alloc (Obj.cells #[.slice none 0 0] 27)).heap.size = w.heap.size + 1 := by simp
  have hX2 := hid ((Bx.new w 27 #[.slice none 0 0]).alloc (Obj.cells #[.slice none 0 0] 27))
  have hX4 := Bx.new (w.alloc (Obj.cells #[.slice none 0 0] 27)) 27 #[.slice none 0 0]
  rw [hXX] at hX4
  have hX4 := hid hX4
  clear hXX
  go_enter Tryz.func74, Tryz.ntmps74
  go_wp2
  go_loopw [0] (fun u wr => Hid (∃ (t : ByteArray) (rows : List (List Int)) (A : Option Addr) (c : Nat), u = .string t ∧ t.size ≤ s.size ∧ rows.length ≤ 12 ∧ Hid (∀ r ∈ rows, r.length ≤ s.size) ∧ Hid (mpR rows none (tl t) = R) ∧ Bx wr w.heap.size 27 #[.slice none 0 0] ∧ Bx wr (w.heap.size + 1) 27 #[.slice A rows.length c] ∧ Grid wr (w.heap.size + 2) wr.heap.size (.slice A rows.length c) rows ∧ Below w.heap.size w wr)) (fun u _ => match u with | .string t => t.size | _ => 0)
  case atStart => exact hid ⟨s, [], none, 0, rfl, Nat.le_refl _, by simp, hid (fun r h => by cases h), hst, hX2.out, hX4.out, Grid.nil _ _ _, (by repeat' (first | exact Below.refl _ _ | (with_reducible first | assumption | exact Nat.le_refl _ | refine Below.alloc ?_ ?_ _ | refine Below.setCell ?_ ?_ _ | refine Below.drew ?_ | refine below_drewN ?_ _) | refine Below.trans ?_ (Below.mono (by assumption) ?_) | exact Below.size (by assumption) | omega | go_size | (simp at *; omega)))⟩
  case round =>
    clear hst hX2 hX4
    obtain ⟨t, rows, A, c, rfl, ht, hrl, hrb, he, hX2, hX4, hG, hb0⟩ := hrel.out
    clear hrel
    have hz0 := hb0.size
    have hz4 := hX4.lt
    have hemp := tl_empty (s := t)
    have e2 := hX2.cell 0
    have f2 := hX2.frozen 0
    have e4 := hX4.cell 0
    have f4 := hX4.frozen 0
    replace e2 : wr.cell? ⟨w.heap.size, 0, none⟩ = some (.slice none 0 0) := e2
    replace e4 : wr.cell? ⟨w.heap.size + 1, 0, none⟩ = some (.slice A rows.length c) := e4
    by_cases htl : tl t = []
    · have hem : t.toList.isEmpty = true := by rw [hemp]; exact decide_eq_true htl
      clear hemp
      have he1 := he.out
      rw [htl, mpR_end] at he1
      have HE := hid he1
      have HG := hid hG
      clear he he1 htl hX2 hX4 hG
      go_wp2
      refine bodyPost_ret (v := .tuple #[.agg #[.slice A rows.length c], .bool true]) ?_ rfl ?_
      · simp (maxDischargeDepth := 8) [results, Tryz.results74, go_sem, *]
      exact ⟨⟨rows, A, c, true, hrl, hrb.out, rfl, ((HG.out.setq (p := ⟨w.heap.size, 0, none⟩) (by show w.heap.size < _; omega) _).more (by omega)).size, (fun _ => by rw [← HE.out]), (fun h => by cases h)⟩, (by repeat' (first | exact Below.refl _ _ | (with_reducible first | assumption | exact Nat.le_refl _ | refine Below.alloc ?_ ?_ _ | refine Below.setCell ?_ ?_ _ | refine Below.drew ?_ | refine below_drewN ?_ _) | refine Below.trans ?_ (Below.mono (by assumption) ?_) | exact Below.size (by assumption) | omega | go_size | (simp at *; omega)))⟩
    · have hem : t.toList.isEmpty = false := by rw [hemp]; exact decide_eq_false htl
      clear hemp
      have h0t : 0 < t.size := by
        rw [← tl_len]; exact List.length_pos_iff.2 htl
      have hC := hid (l04Beat_any t wr h0t (by omega))
      have hN := hid (fun h : bt1 (tl t) = none => show shp R = none from by rw [← he.out]; exact bt1_none htl h)
      have hY := hid (fun (b : List Int) (rest : List UInt8) (h : bt1 (tl t) = some (b, rest)) => show mpR (rows ++ [b]) none rest = R ∧ rest.length < t.size ∧ b.length ≤ t.size from by
        obtain ⟨h1, h2, h3⟩ := bt1_some (out := rows) h
        rw [tl_len] at h2 h3
        exact ⟨by rw [← h1]; exact he.out, h2, by omega⟩)
      generalize bt1 (tl t) = bo at *
      clear he htl
      go_wp2_with fail
      refine hC.out.mono ?_
      rintro e w1 ⟨⟨b, v, t2, hbl, rfl, ho, hbr⟩, hb1⟩
      have hX2' := hX2.below hb1 (by omega)
      have hX4' := hX4.below hb1 hX4.lt
      have e2 := hX2'.cell 0
      have f2 := hX2'.frozen 0
      have e4 := hX4'.cell 0
      have f4 := hX4'.frozen 0
      replace e2 : w1.cell? ⟨w.heap.size, 0, none⟩ = some (.slice none 0 0) := e2
      replace e4 : w1.cell? ⟨w.heap.size + 1, 0, none⟩ = some (.slice A rows.length c) := e4
      have hG1 := hG.below hb1
      have hz1 := hb1.size
      have hB1 : Below w.heap.size w w1 := hb0.trans (hb1.mono hz0)
      have HX2 := hid hX2'
      have HX4 := hid hX4'
      have HBR := hid hbr
      clear hX2 hX4 hX2' hX4' hG hC hb1 hbr
      cases bo with
      | none =>
        have HN := hid (hN.out rfl)
        clear hN hY HBR
        go_wp2
        refine bodyPost_ret (v := .tuple #[.agg #[.slice none 0 0], .bool false]) ?_ rfl ?_
        · simp (maxDischargeDepth := 8) [results, Tryz.results74, go_sem, *]
        exact ⟨by rw [HN.out]; exact LrRes.no _ _ _, (by repeat' (first | exact Below.refl _ _ | (with_reducible first | assumption | exact Nat.le_refl _ | refine Below.alloc ?_ ?_ _ | refine Below.setCell ?_ ?_ _ | refine Below.drew ?_ | refine below_drewN ?_ _) | refine Below.trans ?_ (Below.mono (by assumption) ?_) | exact Below.size (by assumption) | omega | go_size | (simp at *; omega)))⟩
      | some br =>
        obtain ⟨b', rest⟩ := br
        obtain ⟨h1, h2⟩ := HBR.out b' rest rfl
        subst h1
        obtain ⟨h3, h4, h5⟩ := hY.out b' rest rfl
        rw [← h2] at h3 h4
        rw [tl_len] at h4
        have H3 := hid h3
        clear hY hN HBR h2 h3
        by_cases h12 : rows.length < 12
        · have h12I : ¬ (12 : Int) ≤ (rows.length : Int) := by omega
          obtain ⟨A5, c5, rfl⟩ := own_form ho
          have hum : ∀ g, (Value.slice A5 b'.length c5).ownBlock = some g → wr.heap.size ≤ g := fun g h => (ho.lt g h).1
          have HRB := hid (rows_snoc hrb.out (show b'.length ≤ s.size by omega))
          go_wp2_with (at_builtin; refine push_row hG1 (own_more ho (by omega)) hum hz1 _ Tryz.underlying25 inf_row rfl _ _ rfl rfl rfl (by omega) (by omega) ?_; intro v4 w4 hG4 hb4 hg4; obtain ⟨A4, c4, rfl⟩ := hG4.form; have X2 := hid (HX2.out.below hb4 (by omega)); have X4 := hid (HX4.out.below hb4 (by omega)); have e2 := X2.out.cell 0; have f2 := X2.out.frozen 0; have e4 := X4.out.cell 0; have f4 := X4.out.frozen 0; replace e2 : w4.cell? ⟨w.heap.size, 0, none⟩ = some (.slice none 0 0) := e2; replace e4 : w4.cell? ⟨w.heap.size + 1, 0, none⟩ = some (.slice A rows.length c) := e4; have z4 := hb4.size)
          go_roundw
          case rel => exact hid ⟨t2, rows ++ [b'], A4, c4, rfl, by omega, by rw [List.length_append]; simp; omega, HRB, H3, X2.out.far (by simp) _, (by rw [List.length_append]; exact X4.out.set_ 0 (.slice A4 (rows.length + 1) c4)), ((hG4.setq (p := ⟨w.heap.size + 1, 0, none⟩) (by show w.heap.size + 1 < _; omega) _)).size, (by repeat' (first | exact Below.refl _ _ | (with_reducible first | assumption | exact Nat.le_refl _ | refine Below.alloc ?_ ?_ _ | refine Below.setCell ?_ ?_ _ | refine Below.drew ?_ | refine below_drewN ?_ _) | refine Below.trans ?_ (Below.mono (by assumption) ?_) | exact Below.size (by assumption) | omega | go_size | (simp at *; omega)))⟩
          case measure => simp; omega
        · have h12I : (12 : Int) ≤ (rows.length : Int) := by omega
          have HN : Hid (shp R = none) := by show _ = _; rw [← H3.out]; exact mpR_many (by rw [List.length_append]; simp; omega)
          go_wp2
          refine bodyPost_ret (v := .tuple #[.agg #[.slice none 0 0], .bool false]) ?_ rfl ?_
          · simp (maxDischargeDepth := 8) [results, Tryz.results74, go_sem, *]
          exact ⟨by rw [HN.out]; exact LrRes.no _ _ _, (by repeat' (first | exact Below.refl _ _ | (with_reducible first | assumption | exact Nat.le_refl _ | refine Below.alloc ?_ ?_ _ | refine Below.setCell ?_ ?_ _ | refine Below.drew ?_ | refine below_drewN ?_ _) | refine Below.trans ?_ (Below.mono (by assumption) ?_) | exact Below.size (by assumption) | omega | go_size | (simp at *; omega)))⟩
set_option maxHeartbeats 1000000 in
theorem specReadMulti_any (s : ByteArray) (w : World) (hs : s.size ≤ 1099511627775) :
    Calls Tryz.prog 79 #[.string s] w fun e w' => RmRes w.heap.size (rReadMulti (tl s)) e w' ∧ Below w.heap.size w w' := by
  have hC := l04Read_any s (w.alloc (Obj.cells #[.slice none 0 0] 27)) hs
  have hX := Bx.new w 27 #[.slice none 0 0]
  rw [rReadMulti]
  generalize rdM (tl s) = r at *
  have hC := hid hC
  go_enter Tryz.func79, Tryz.ntmps79
  go_wp2_with fail
  refine hC.out.mono ?_
  rintro e w1 ⟨⟨q, A, c, ok, hq1, hq2, rfl, hG, hy, hn⟩, hb1⟩
  have hX1 := hX.below hb1 hX.lt
  have z1 := hb1.size
  have hgr : w.heap.size < w1.heap.size := by simp at z1; omega
  have hB1 : Below w.heap.size w w1 := (by repeat' (first | exact Below.refl _ _ | (with_reducible first | assumption | exact Nat.le_refl _ | refine Below.alloc ?_ ?_ _ | refine Below.setCell ?_ ?_ _ | refine Below.drew ?_ | refine below_drewN ?_ _) | refine Below.trans ?_ (Below.mono (by assumption) ?_) | exact Below.size (by assumption) | omega | go_size | (simp at *; omega)))
  have e0 := hX1.cell 0
  have f0 := hX1.frozen 0
  replace e0 : w1.cell? ⟨w.heap.size, 0, none⟩ = some (.slice none 0 0) := e0
  have hbs : (w.alloc (Obj.cells #[.slice none 0 0] 27)).heap.size = w.heap.size + 1 := by simp
  rw [hbs] at hG
  have HG := hid hG
  have HY := hid hy
  have HN := hid hn
  clear hC hX hb1 hX1 hG hy hn hbs z1
  cases ok with
  | false =>
    have HR := hid (HN.out rfl)
    clear HY HN
    go_wp2
    refine bodyPost_ret (v := .tuple #[.agg #[.slice none 0 0], .bool false]) ?_ rfl ?_
    · simp (maxDischargeDepth := 8) [results, Tryz.results79, go_sem, *]
    exact ⟨by rw [HR.out]; exact RmRes.no _ _, (by repeat' (first | exact Below.refl _ _ | (with_reducible first | assumption | exact Nat.le_refl _ | refine Below.alloc ?_ ?_ _ | refine Below.setCell ?_ ?_ _ | refine Below.drew ?_ | refine below_drewN ?_ _) | refine Below.trans ?_ (Below.mono (by assumption) ?_) | exact Below.size (by assumption) | omega | go_size | (simp at *; omega)))⟩
  | true =>
    have HR := hid (HY.out rfl)
    clear HY HN
    obtain ⟨W, hW⟩ : ∃ W, w1.alloc (Obj.cells #[.slice A q.length c] 27) = W := ⟨_, rfl⟩
    have hbW : Below w1.heap.size w1 W := by rw [← hW]; exact (by repeat' (first | exact Below.refl _ _ | (with_reducible first | assumption | exact Nat.le_refl _ | refine Below.alloc ?_ ?_ _ | refine Below.setCell ?_ ?_ _ | refine Below.drew ?_ | refine below_drewN ?_ _) | refine Below.trans ?_ (Below.mono (by assumption) ?_) | exact Below.size (by assumption) | omega | go_size | (simp at *; omega)))
    have hXW : Bx W w1.heap.size 27 #[.slice A q.length c] := by rw [← hW]; exact Bx.new _ _ _
    have hV := l04Ok_any w1.heap.size A q.length c q W (by omega) (fun r hr => by have := hq2 r hr; omega) hXW ((HG.out.read.below hbW (Nat.le_refl _)).more hbW.size)
    obtain ⟨pb, hpb⟩ : ∃ pb, mOk q = pb := ⟨_, rfl⟩
    rw [hpb] at hV
    rw [← hW] at hV
    have HE : Hid (mElse r = if pb then (q, true) else ([], false)) := by show _ = _; rw [HR.out]; exact mElse_T hpb
    have hV := hid hV
    clear HR hW hbW hpb hXW
    go_wp2_with fail
    refine hV.out.mono ?_
    rintro e w2 ⟨rfl, hb2⟩
    have hB2 : Below w1.heap.size w1 w2 := (by repeat' (first | exact Below.refl _ _ | (with_reducible first | assumption | exact Nat.le_refl _ | refine Below.alloc ?_ ?_ _ | refine Below.setCell ?_ ?_ _ | refine Below.drew ?_ | refine below_drewN ?_ _) | refine Below.trans ?_ (Below.mono (by assumption) ?_) | exact Below.size (by assumption) | omega | go_size | (simp at *; omega)))
    have q0 := (hB2.cell (p := ⟨w.heap.size, 0, none⟩) hgr).trans e0
    have q2 := (hB2.frozen (p := ⟨w.heap.size, 0, none⟩) hgr).trans f0
    have q4 : w2.cell? ⟨w1.heap.size, 0, none⟩ = some (.slice A q.length c) := (hb2.cell (p := ⟨w1.heap.size, 0, none⟩) (by simp)).trans (by simp)
    clear hV hb2 e0 f0
    cases pb
    · go_wp2
      refine bodyPost_ret (v := .tuple #[.agg #[.slice none 0 0], .bool false]) ?_ rfl ?_
      · simp (maxDischargeDepth := 8) [results, Tryz.results79, go_sem, *]
      exact ⟨by rw [HE.out]; exact RmRes.no _ _, (by repeat' (first | exact Below.refl _ _ | (with_reducible first | assumption | exact Nat.le_refl _ | refine Below.alloc ?_ ?_ _ | refine Below.setCell ?_ ?_ _ | refine Below.drew ?_ | refine below_drewN ?_ _) | refine Below.trans ?_ (Below.mono (by assumption) ?_) | exact Below.size (by assumption) | omega | go_size | (simp at *; omega)))⟩
    · go_wp2
      refine bodyPost_ret (v := .tuple #[.agg #[.slice A q.length c], .bool true]) ?_ rfl ?_
      · simp (maxDischargeDepth := 8) [results, Tryz.results79, go_sem, *]
      refine ⟨?_, (by repeat' (first | exact Below.refl _ _ | (with_reducible first | assumption | exact Nat.le_refl _ | refine Below.alloc ?_ ?_ _ | refine Below.setCell ?_ ?_ _ | refine Below.drew ?_ | refine below_drewN ?_ _) | refine Below.trans ?_ (Below.mono (by assumption) ?_) | exact Below.size (by assumption) | omega | go_size | (simp at *; omega)))⟩
      rw [HE.out]
      exact RmRes.mk (((HG.out.below hB2).setq (p := ⟨w.heap.size, 0, none⟩) (by show w.heap.size < _; omega) _).more (by omega)).size
end Go.Proofs.YtgphkfnobmponaaGreat
