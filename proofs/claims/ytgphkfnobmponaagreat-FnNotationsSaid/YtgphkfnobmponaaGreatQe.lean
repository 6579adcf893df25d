/- The text: Qe. -/
import Derived.Test.YtgphkfnobmponaaGreatG28
import Derived.Test.YtgphkfnobmponaaGreatG05
import Derived.Deep.RegionWith
import Derived.Deep.AppendLies
/- Contracts of ReadPassing, both. -/
namespace Go.Proofs.YtgphkfnobmponaaGreat
open Go.RowKit
set_option linter.unusedVariables false

/-- A pattern of the call's own, and a yes or no. -/
def PaRes (B : Nat) (r : Psg × Bool) (e : Ending) (w : World) : Prop := ∃ A c A' c', (A = none → c = 0) ∧ ((A' = none → c' = 0) ∧ Rise (.slice A r.1.1.length c) (.slice A' r.1.2.length c')) ∧ e = .returned (.tuple #[.agg #[.slice A r.1.1.length c, .slice A' r.1.2.length c'], .bool r.2]) ∧ w.ownsRow B 83 2 (.slice A r.1.1.length c) r.1.1.length (ths r.1.1) ∧ w.ownsRow B 83 2 (.slice A' r.1.2.length c') r.1.2.length (ths r.1.2)
theorem PaRes.no (B : Nat) (w : World) (b : Bool) : PaRes B (([], []), b) (.returned (.tuple #[.agg #[.slice none 0 0, .slice none 0 0], .bool b])) w := ⟨none, 0, none, 0, fun _ => rfl, ⟨fun _ => rfl, fun g h hg => by cases hg⟩, rfl, World.ownsRow_nil _ _ _ _, World.ownsRow_nil _ _ _ _⟩
theorem PaRes.mk {B : Nat} {w : World} {A A' : Option Addr} {c c' : Nat} {a b : List PT} {x : Bool} (hA : A = none → c = 0) (hA' : (A' = none → c' = 0) ∧ Rise (.slice A a.length c) (.slice A' b.length c')) (h : w.ownsRow B 83 2 (.slice A a.length c) a.length (ths a)) (h' : w.ownsRow B 83 2 (.slice A' b.length c') b.length (ths b)) : PaRes B ((a, b), x) (.returned (.tuple #[.agg #[.slice A a.length c, .slice A' b.length c'], .bool x])) w := ⟨A, c, A', c', hA, hA', rfl, h, h'⟩
/-- A pattern that is read, and whether it has the form. -/
def FoRes (B : Nat) (r : Option Psg) (e : Ending) (w : World) : Prop := ∃ p : Psg, p.1.length ≤ 9 ∧ p.2.length ≤ 9 ∧ PaRes B (p, r.isSome) e w ∧ ∀ p', r = some p' → p' = p
theorem FoRes.no (B : Nat) (w : World) : FoRes B none (.returned (.tuple #[.agg #[.slice none 0 0, .slice none 0 0], .bool false])) w := ⟨([], []), by simp, by simp, PaRes.no B w false, fun p h => by cases h⟩
theorem rdJ9_len {l : List UInt8} {q : List PT} (h : rdJ l = some q) : q.length = (splitL 32 l).length := rdPs_len h
theorem rdTwo_9 (x y : List UInt8) : rdTwo (rdJ x) (rdJ y) = rdTwo (rdJ9 x) (rdJ9 y) := by
  unfold rdJ9
  by_cases hx : (splitL 32 x).length ≤ 9
  · rw [if_pos hx]
    by_cases hy : (splitL 32 y).length ≤ 9
    · rw [if_pos hy]
    · rw [if_neg hy, rdTwo_none]
      cases h1 : rdJ x with
      | none => cases rdJ y <;> rfl
      | some a =>
        cases h2 : rdJ y with
        | none => rfl
        | some b =>
          have hb := rdJ9_len h2
          show (if psSh (a, b) then some (a, b) else none) = none
          rw [if_neg]
          intro h
          obtain ⟨⟨_, h8⟩, he, _⟩ := psSh_iff.1 h
          simp only at h8 he
          omega
  · rw [if_neg hx]
    cases h1 : rdJ x with
    | none => cases rdJ y <;> rfl
    | some a =>
      cases h2 : rdJ y with
      | none => rfl
      | some b =>
        have ha := rdJ9_len h1
        show (if psSh (a, b) then some (a, b) else none) = none
        rw [if_neg]
        intro h
        obtain ⟨⟨_, h8⟩, he, _⟩ := psSh_iff.1 h
        simp only at h8 he
        omega
theorem rdForm_9 (m : List UInt8) : rdForm m = if (cutL 124 m).2.2 then rdTwo (rdJ9 (cutL 124 m).1) (rdJ9 (cutL 124 m).2.1) else none := by
  rw [rdForm]
  split
  · exact rdTwo_9 _ _
  · rfl
theorem tl_first {s : ByteArray} (h : 0 < s.size) : (tl s).head? = some (s[0]'h) := by
  have := tl_drop s 0 h
  rw [List.drop_zero] at this
  rw [this]; rfl
theorem tl_lastq {s : ByteArray} {n : Nat} (h : s.size = n + 1) : (tl s).getLast? = some (s[n]'(by omega)) := by
  rw [List.getLast?_eq_getElem?, tl_len, show s.size - 1 = n by omega]
  exact tl_at s n (by omega)
theorem tl_mid {s : ByteArray} {n : Nat} (h : s.size = n + 1) : tl (s.extract 1 n) = ((tl s).drop 1).dropLast := by
  rw [tl_extract, List.dropLast_eq_take, List.length_drop, tl_len, h, List.drop_take]
  congr 1
theorem byte_eq {x c : UInt8} : (((x.toNat : Int)) != (c.toNat : Int)) = decide (x ≠ c) := by
  rw [Bool.eq_iff_iff]
  simp only [bne_iff_ne, ne_eq, Int.natCast_inj, decide_eq_true_eq]
  exact not_congr UInt8.toNat_inj
theorem rdPa_no {l : List UInt8} (h : ¬ (2 ≤ l.length ∧ l.head? = some 60 ∧ l.getLast? = some 62)) : rdPa l = none := by rw [rdPa, if_neg h]
/-- An owned row under a write below its base. -/
theorem own_set {w : World} {base e sz n : Nat} {v : Value} {xs : List Value} (h : w.ownsRow base e sz v n xs) {p : Addr} (hp : p.block < base) (u : Value) : (w.setCell p u).ownsRow base e sz v n xs := by
  refine ⟨h.1, ?_⟩
  rcases h.2 with hn | ⟨g, cap, cur, rfl, hg, hh, r⟩
  · exact .inl hn
  · exact .inr ⟨g, cap, cur, rfl, hg, by rw [Below.heap_setCell w p u g (by omega)]; exact hh, r⟩
theorem FoRes.mk {B : Nat} {w : World} {A A' : Option Addr} {c c' : Nat} {a b : List PT} {x : Bool} {r : Option Psg} (ha : a.length ≤ 9) (hb : b.length ≤ 9) (hA : A = none → c = 0) (hA' : (A' = none → c' = 0) ∧ Rise (.slice A a.length c) (.slice A' b.length c')) (h : w.ownsRow B 83 2 (.slice A a.length c) a.length (ths a)) (h' : w.ownsRow B 83 2 (.slice A' b.length c') b.length (ths b)) (hx : r.isSome = x) (hr : ∀ p', r = some p' → p' = (a, b)) : FoRes B r (.returned (.tuple #[.agg #[.slice A a.length c, .slice A' b.length c'], .bool x])) w := by
  subst hx
  exact ⟨(a, b), ha, hb, PaRes.mk hA hA' h h', hr⟩
set_option maxRecDepth 100000 in
set_option maxHeartbeats 8000000 in
theorem readForm_any (s : ByteArray) (w : World) (hs : s.size ≤ 1099511627776) :
    Calls Tryz.prog 67 #[.string s] w fun e w' => FoRes w.heap.size (rdPa (tl s)) e w' ∧ Below w.heap.size w w' := by
  by_cases h2 : 2 ≤ s.size
  · obtain ⟨n, hn⟩ : ∃ n, s.size = n + 1 := ⟨s.size - 1, by omega⟩
    have hq1 : ¬ (s.size : Int) < 2 := by omega
    have hi0 : (0 : Int) < (s.size : Int) := by omega
    have hp0 : 0 < s.size := by omega
    have hfst := tl_first hp0
    have hlst := tl_lastq hn
    by_cases h60 : s[0]'hp0 = 60
    · have hq2 : (((s[0]'hp0).toNat : Int) != 60) = false := by rw [h60]; rfl
      have hni : n < s.size := by omega
      have hnI : (n : Int) < (s.size : Int) := by omega
      have hn2 : (n : Int) ≤ (s.size : Int) := by omega
      have h1n : (1 : Int) ≤ (n : Int) := by omega
      have hsz : IntKind.i64.wrap ((s.size : Int) - 1) = (n : Int) := by rw [show (s.size : Int) - 1 = (n : Int) by omega]; exact IntWalk.i64_in (n : Int) (by omega)
      by_cases h62 : s[n]'hni = 62
      · have hq3 : (((s[n]'hni).toNat : Int) != 62) = false := by rw [h62]; rfl
        have hR : rdPa (tl s) = rdForm ((tl s).drop 1).dropLast := by
          rw [rdPa, if_pos ⟨by rw [tl_len]; exact h2, by rw [hfst, h60], by rw [hlst, h62]⟩]
        obtain ⟨sub, hsub⟩ : ∃ sub, s.extract 1 n = sub := ⟨_, rfl⟩
        have hsl : tl sub = ((tl s).drop 1).dropLast := by rw [← hsub]; exact tl_mid hn
        rw [hR, ← hsl, rdForm_9]
        have hsubz : sub.size ≤ 1099511627776 := by rw [← hsub, ByteArray.size_extract]; omega
        have hC := cut_any sub 124 (w.alloc (Obj.cells #[.slice none 0 0, .slice none 0 0] 31)) hsubz
        have hcz := pcut_size 124 (tl sub)
        rw [tl_len] at hcz
        generalize cutL 124 (tl sub) = ct at *
        obtain ⟨c1, c2, f⟩ := ct
        simp only at hcz
        have hC := hid hC
        obtain ⟨o1, hj1⟩ : ∃ o, rdJ9 c1 = o := ⟨_, rfl⟩
        obtain ⟨o2, hj2⟩ : ∃ o, rdJ9 c2 = o := ⟨_, rfl⟩
        have HG : FoRes w.heap.size (if f = true then rdTwo o1 o2 else none) = FoRes w.heap.size (if (c1, c2, f).2.2 = true then rdTwo (rdJ9 (c1, c2, f).1) (rdJ9 (c1, c2, f).2.1) else none) := by rw [← hj1, ← hj2]
        rw [← HG]
        have HJ1 := hid hj1
        have HJ2 := hid hj2
        clear hfst hlst h60 h62 hR hsl hn hj1 hj2 HG
        go_enter Tryz.func67, Tryz.ntmps67
        go_wp2_with fail
        refine hC.out.mono ?_
        rintro e w1 ⟨⟨left, right, rfl, hleft, hright⟩, hb1⟩
        simp only at hleft hright
        have hT1 := readPasses_any left w1 (by rw [← tl_len, hleft]; omega)
        have hT2 := hid (fun w9 => readPasses_any right w9 (by rw [← tl_len, hright]; omega))
        rw [hleft, HJ1.out] at hT1
        rw [hright, HJ2.out] at hT2
        have z1 := hb1.size
        have hX := (Bx.new w 31 #[.slice none 0 0, .slice none 0 0]).below hb1 (by simp)
        have hlw : w.heap.size < w1.heap.size := by simp at z1; omega
        have hB1 : Below w.heap.size w w1 := (by repeat' (first | exact Below.refl _ _ | (with_reducible first | assumption | exact Nat.le_refl _ | refine Below.alloc ?_ ?_ _ | refine Below.setCell ?_ ?_ _ | refine Below.drew ?_ | refine below_drewN ?_ _) | refine Below.trans ?_ (Below.mono (by assumption) ?_) | exact Below.size (by assumption) | omega | go_size | (simp at *; omega)))
        clear HJ1 HJ2
        have hT1 := hid hT1
        clear hC hb1 hleft hright z1 hcz
        go_wp2_with fail
        refine hT1.out.mono ?_
        rintro e w2 ⟨⟨a, A1, d1, hA1, ha9, rfl, ho1, har⟩, hb2⟩
        have hX2 := hX.below hb2 hX.lt
        have hB2 := bchain hB1 hb2
        have z2 := hb2.size
        clear hT1 hb2 hX
        go_wp2_with fail
        refine (hT2.out _).mono ?_
        rintro e w3 ⟨⟨b, A2, d2, hA2, hb9, rfl, ho2, hbr⟩, hb3⟩
        replace hA2 : (A2 = none → d2 = 0) ∧ Rise (.slice A1 a.length d1) (.slice A2 b.length d2) := ⟨hA2, fun g h hg hh => Nat.lt_of_lt_of_le (ho1.lt g hg).2 (ho2.lt h hh).1⟩
        have hX3 := hX2.below hb3 hX2.lt
        have hB3 := bchain hB2 hb3
        have z3 := hb3.size
        replace ho1 := own_below ho1 hb3
        have hgr : w.heap.size < w3.heap.size := by omega
        have e0 := hX3.cell 0
        have e1 := hX3.cell 1
        have f0 := hX3.frozen 0
        have f1 := hX3.frozen 1
        replace e0 : w3.cell? ⟨w.heap.size, 0, none⟩ = some (.slice none 0 0) := e0
        replace e1 : w3.cell? ⟨w.heap.size, 1, none⟩ = some (.slice none 0 0) := e1
        have HO1 := hid ho1
        have HO2 := hid ho2
        have HAR := hid har
        have HBR := hid hbr
        clear hT2 hX2 hb3 hX3 ho1 ho2 har hbr
        cases f with
        | false =>
          go_wp2
          go_region
          go_wp2
          refine bodyPost_ret (v := .tuple #[.agg #[.slice A1 a.length d1, .slice A2 b.length d2], .bool false]) ?_ rfl ?_
          · simp (maxDischargeDepth := 8) [results, Tryz.results67, go_sem, *]
          exact ⟨FoRes.mk ha9 hb9 hA1 hA2 (own_more ((own_set (own_set HO1.out (p := ⟨w.heap.size, 0, none⟩) (by show w.heap.size < _; omega) _) (p := ⟨w.heap.size, 1, none⟩) (by show w.heap.size < _; omega) _).alloc _) (by omega)) (own_more ((own_set (own_set HO2.out (p := ⟨w.heap.size, 0, none⟩) (by show w.heap.size < _; omega) _) (p := ⟨w.heap.size, 1, none⟩) (by show w.heap.size < _; omega) _).alloc _) (by omega)) rfl (fun p' h => by cases h), (by repeat' (first | exact Below.refl _ _ | (with_reducible first | assumption | exact Nat.le_refl _ | refine Below.alloc ?_ ?_ _ | refine Below.setCell ?_ ?_ _ | refine Below.drew ?_ | refine below_drewN ?_ _) | refine Below.trans ?_ (Below.mono (by assumption) ?_) | exact Below.size (by assumption) | omega | go_size | (simp at *; omega)))⟩
        | true =>
          cases o1 with
          | none =>
            go_wp2
            go_region
            go_wp2
            refine bodyPost_ret (v := .tuple #[.agg #[.slice A1 a.length d1, .slice A2 b.length d2], .bool false]) ?_ rfl ?_
            · simp (maxDischargeDepth := 8) [results, Tryz.results67, go_sem, *]
            exact ⟨FoRes.mk ha9 hb9 hA1 hA2 (own_more ((own_set (own_set HO1.out (p := ⟨w.heap.size, 0, none⟩) (by show w.heap.size < _; omega) _) (p := ⟨w.heap.size, 1, none⟩) (by show w.heap.size < _; omega) _).alloc _) (by omega)) (own_more ((own_set (own_set HO2.out (p := ⟨w.heap.size, 0, none⟩) (by show w.heap.size < _; omega) _) (p := ⟨w.heap.size, 1, none⟩) (by show w.heap.size < _; omega) _).alloc _) (by omega)) (by cases o2 <;> rfl) (fun p' h => by cases o2 <;> cases h), (by repeat' (first | exact Below.refl _ _ | (with_reducible first | assumption | exact Nat.le_refl _ | refine Below.alloc ?_ ?_ _ | refine Below.setCell ?_ ?_ _ | refine Below.drew ?_ | refine below_drewN ?_ _) | refine Below.trans ?_ (Below.mono (by assumption) ?_) | exact Below.size (by assumption) | omega | go_size | (simp at *; omega)))⟩
          | some a1 =>
            cases o2 with
            | none =>
              go_wp2
              go_region
              go_wp2
              refine bodyPost_ret (v := .tuple #[.agg #[.slice A1 a.length d1, .slice A2 b.length d2], .bool false]) ?_ rfl ?_
              · simp (maxDischargeDepth := 8) [results, Tryz.results67, go_sem, *]
              exact ⟨FoRes.mk ha9 hb9 hA1 hA2 (own_more ((own_set (own_set HO1.out (p := ⟨w.heap.size, 0, none⟩) (by show w.heap.size < _; omega) _) (p := ⟨w.heap.size, 1, none⟩) (by show w.heap.size < _; omega) _).alloc _) (by omega)) (own_more ((own_set (own_set HO2.out (p := ⟨w.heap.size, 0, none⟩) (by show w.heap.size < _; omega) _) (p := ⟨w.heap.size, 1, none⟩) (by show w.heap.size < _; omega) _).alloc _) (by omega)) rfl (fun p' h => by cases h), (by repeat' (first | exact Below.refl _ _ | (with_reducible first | assumption | exact Nat.le_refl _ | refine Below.alloc ?_ ?_ _ | refine Below.setCell ?_ ?_ _ | refine Below.drew ?_ | refine below_drewN ?_ _) | refine Below.trans ?_ (Below.mono (by assumption) ?_) | exact Below.size (by assumption) | omega | go_size | (simp at *; omega)))⟩
            | some b1 =>
              have ea := HAR.out a1 rfl
              have eb := HBR.out b1 rfl
              subst ea eb
              obtain ⟨W, hW⟩ : ∃ W, (w3.alloc (Obj.cells #[.slice A1 a1.length d1, .slice A2 b1.length d2] 31)).drew = W := ⟨_, rfl⟩
              have hbW : Below w3.heap.size w3 W := by rw [← hW]; exact (by repeat' (first | exact Below.refl _ _ | (with_reducible first | assumption | exact Nat.le_refl _ | refine Below.alloc ?_ ?_ _ | refine Below.setCell ?_ ?_ _ | refine Below.drew ?_ | refine below_drewN ?_ _) | refine Below.trans ?_ (Below.mono (by assumption) ?_) | exact Below.size (by assumption) | omega | go_size | (simp at *; omega)))
              have HC := isPassingForm_any A1 A2 a1.length d1 b1.length d2 (a1, b1) W (by omega) (by omega) (((Rd.of_own HO1.out).below hbW (Nat.le_refl _)).more hbW.size) (((Rd.of_own HO2.out).below hbW (Nat.le_refl _)).more hbW.size)
              have hro : rdTwo (some a1) (some b1) = if psSh (a1, b1) then some (a1, b1) else none := rfl
              obtain ⟨pb, hpb⟩ : ∃ pb, psSh (a1, b1) = pb := ⟨_, rfl⟩
              rw [hpb] at HC hro
              rw [← hW] at HC
              have HC := hid HC
              have HRO := hid hro
              clear HAR HBR hW hpb hbW hro
              go_wp2
              go_region_with (go_at_call 103; with_reducible refine HC.out.mono ?_; rintro e w5 ⟨rfl, hb5⟩; have hB5 : Below w3.heap.size w3 w5 := (by repeat' (first | exact Below.refl _ _ | (with_reducible first | assumption | exact Nat.le_refl _ | refine Below.alloc ?_ ?_ _ | refine Below.setCell ?_ ?_ _ | refine Below.drew ?_ | refine below_drewN ?_ _) | refine Below.trans ?_ (Below.mono (by assumption) ?_) | exact Below.size (by assumption) | omega | go_size | (simp at *; omega))); have q0 := (hB5.cell (p := ⟨w.heap.size, 0, none⟩) hgr).trans e0; have q1 := (hB5.cell (p := ⟨w.heap.size, 1, none⟩) hgr).trans e1; have q2 := (hB5.frozen (p := ⟨w.heap.size, 0, none⟩) hgr).trans f0; have q3 := (hB5.frozen (p := ⟨w.heap.size, 1, none⟩) hgr).trans f1; have q4 : w5.cell? ⟨w3.heap.size, 0, none⟩ = some (.slice A1 a1.length d1) := (hb5.cell (p := ⟨w3.heap.size, 0, none⟩) (by simp)).trans (by simp); have q5 : w5.cell? ⟨w3.heap.size, 1, none⟩ = some (.slice A2 b1.length d2) := (hb5.cell (p := ⟨w3.heap.size, 1, none⟩) (by simp)).trans (by simp))
              all_goals
                go_wp2
                refine bodyPost_ret (v := .tuple #[.agg #[.slice A1 a1.length d1, .slice A2 b1.length d2], .bool pb]) ?_ rfl ?_
                · simp (maxDischargeDepth := 8) [results, Tryz.results67, go_sem, *]
                refine ⟨FoRes.mk ha9 hb9 hA1 hA2 (own_more (own_set (own_set (own_below HO1.out hB5) (p := ⟨w.heap.size, 0, none⟩) (by show w.heap.size < _; omega) _) (p := ⟨w.heap.size, 1, none⟩) (by show w.heap.size < _; omega) _) (by omega)) (own_more (own_set (own_set (own_below HO2.out hB5) (p := ⟨w.heap.size, 0, none⟩) (by show w.heap.size < _; omega) _) (p := ⟨w.heap.size, 1, none⟩) (by show w.heap.size < _; omega) _) (by omega)) ?_ ?_, (by repeat' (first | exact Below.refl _ _ | (with_reducible first | assumption | exact Nat.le_refl _ | refine Below.alloc ?_ ?_ _ | refine Below.setCell ?_ ?_ _ | refine Below.drew ?_ | refine below_drewN ?_ _) | refine Below.trans ?_ (Below.mono (by assumption) ?_) | exact Below.size (by assumption) | omega | go_size | (simp at *; omega)))⟩
                · first | (rw [HRO.out]; cases pb <;> rfl) | (show (rdTwo (some a1) (some b1)).isSome = _; rw [HRO.out]; cases pb <;> rfl)
                · intro p' h
                  have h : rdTwo (some a1) (some b1) = some p' := h
                  rw [HRO.out] at h
                  cases pb
                  · cases h
                  · injection h with h; exact h.symm
      · have hq3 : (((s[n]'hni).toNat : Int) != 62) = true := by rw [show (62 : Int) = ((62 : UInt8).toNat : Int) from rfl, byte_eq]; exact decide_eq_true h62
        have HZ : Hid (rdPa (tl s) = none) := rdPa_no (fun h => h62 (by have := h.2.2; rw [hlst] at this; injection this))
        clear hfst hlst h60 h62 hn
        go_enter Tryz.func67, Tryz.ntmps67
        go_wp2
        refine bodyPost_ret (v := .tuple #[.agg #[.slice none 0 0, .slice none 0 0], .bool false]) ?_ rfl ?_
        · simp (maxDischargeDepth := 8) [results, Tryz.results67, go_sem, *]
        exact ⟨by rw [HZ.out]; exact FoRes.no _ _, (by repeat' (first | exact Below.refl _ _ | (with_reducible first | assumption | exact Nat.le_refl _ | refine Below.alloc ?_ ?_ _ | refine Below.setCell ?_ ?_ _ | refine Below.drew ?_ | refine below_drewN ?_ _) | refine Below.trans ?_ (Below.mono (by assumption) ?_) | exact Below.size (by assumption) | omega | go_size | (simp at *; omega)))⟩
    · have hq2 : (((s[0]'hp0).toNat : Int) != 60) = true := by rw [show (60 : Int) = ((60 : UInt8).toNat : Int) from rfl, byte_eq]; exact decide_eq_true h60
      have HZ : Hid (rdPa (tl s) = none) := rdPa_no (fun h => h60 (by have := h.2.1; rw [hfst] at this; injection this))
      clear hfst hlst h60 hn
      go_enter Tryz.func67, Tryz.ntmps67
      go_wp2
      refine bodyPost_ret (v := .tuple #[.agg #[.slice none 0 0, .slice none 0 0], .bool false]) ?_ rfl ?_
      · simp (maxDischargeDepth := 8) [results, Tryz.results67, go_sem, *]
      exact ⟨by rw [HZ.out]; exact FoRes.no _ _, (by repeat' (first | exact Below.refl _ _ | (with_reducible first | assumption | exact Nat.le_refl _ | refine Below.alloc ?_ ?_ _ | refine Below.setCell ?_ ?_ _ | refine Below.drew ?_ | refine below_drewN ?_ _) | refine Below.trans ?_ (Below.mono (by assumption) ?_) | exact Below.size (by assumption) | omega | go_size | (simp at *; omega)))⟩
  · have hq1 : (s.size : Int) < 2 := by omega
    have HZ : Hid (rdPa (tl s) = none) := rdPa_no (fun h => by have := h.1; rw [tl_len] at this; omega)
    go_enter Tryz.func67, Tryz.ntmps67
    go_wp2
    refine bodyPost_ret (v := .tuple #[.agg #[.slice none 0 0, .slice none 0 0], .bool false]) ?_ rfl ?_
    · simp (maxDischargeDepth := 8) [results, Tryz.results67, go_sem, *]
    exact ⟨by rw [HZ.out]; exact FoRes.no _ _, (by repeat' (first | exact Below.refl _ _ | (with_reducible first | assumption | exact Nat.le_refl _ | refine Below.alloc ?_ ?_ _ | refine Below.setCell ?_ ?_ _ | refine Below.drew ?_ | refine below_drewN ?_ _) | refine Below.trans ?_ (Below.mono (by assumption) ?_) | exact Below.size (by assumption) | omega | go_size | (simp at *; omega)))⟩
end Go.Proofs.YtgphkfnobmponaaGreat
