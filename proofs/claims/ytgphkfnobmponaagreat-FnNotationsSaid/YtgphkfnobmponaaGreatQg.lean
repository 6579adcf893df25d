/- The text: Qg. -/
import Derived.Test.YtgphkfnobmponaaGreatG38
/- Contracts of the reference's readers of passing patterns. -/
namespace Go.Proofs.YtgphkfnobmponaaGreat
open Go.RowKit
set_option linter.unusedVariables false

set_option maxRecDepth 100000 in
set_option maxHeartbeats 2000000 in
theorem l06Throws_any (s : ByteArray) (w : World) (hs : s.size ≤ 1099511627775) :
    Calls Tryz.prog 113 #[.string s] w fun e w' => RtRes w.heap.size (rdJk (tl s)) e w' ∧ Below w.heap.size w w' := by
  have hC := l01Split_any s 32 w hs
  obtain ⟨RR, hRR⟩ : ∃ RR, rdJk (tl s) = RR := ⟨_, rfl⟩
  rw [hRR]
  rw [rdJk] at hRR
  have hpl := (splitL_len 32 (tl s)).2
  have hplen := (splitL_len 32 (tl s)).1
  rw [tl_len] at hpl hplen
  generalize splitL 32 (tl s) = P at *
  obtain ⟨R, hR⟩ : ∃ R, pR0 [] P = R := ⟨_, rfl⟩
  have hR1 : rdPs0 P = R := by rw [← hR, pR0]; cases rdPs0 P <;> rfl
  rw [hR1] at hRR
  have HRR := hid hRR
  have hC := hid hC
  have HPL := hid hpl
  have HR0 := hid hR
  clear hpl hRR hR1 hR
  go_enter Tryz.func113, Tryz.ntmps113
  go_wp2_with fail
  refine hC.out.mono ?_
  rintro e w1 ⟨⟨v1, L, rfl, hL, hP⟩, hb1⟩
  have hln : L.length = P.length := by rw [← hP, List.length_map]
  obtain ⟨A, c, rfl⟩ := own_form hL
  have HRD := hid (Rd.of_own hL)
  have HP := hid hP
  have hz1 := hb1.size
  have hst : Hid (pR0 [] (P.drop 0) = R) := HR0
  have HLN := hid hln
  have hLs : L.length ≤ s.size + 1 := by omega
  clear hC hL hP HR0 hln
  go_wp2
  go_loopw [5, 6] (fun v i wr => Hid (∃ (k : Nat) (out : List PT), i = .int .i64 k ∧ k ≤ L.length ∧ out.length = k ∧ Hid (pR0 out (P.drop k) = R) ∧ wr.ownsRow w1.heap.size 83 2 v out.length (ths out) ∧ Below w1.heap.size w1 wr)) (fun _ i _ => L.length - (intOf i).toNat)
  case atStart => exact hid ⟨0, [], rfl, Nat.zero_le _, rfl, hst, World.ownsRow_lit _ _ 0 (Nat.le_refl _) (by simp [maxLen]) rfl, (by repeat' (first | exact Below.refl _ _ | (with_reducible first | assumption | exact Nat.le_refl _ | refine Below.alloc ?_ ?_ _ | refine Below.setCell ?_ ?_ _ | refine Below.drew ?_ | refine below_drewN ?_ _) | refine Below.trans ?_ (Below.mono (by assumption) ?_) | exact Below.size (by assumption) | omega | go_size | (simp at *; omega)))⟩
  case round =>
    obtain ⟨k, out, rfl, hk, hol, hR, ho, hbr⟩ := hrel.out
    clear hrel hst
    have hzr := hbr.size
    have hBr := bchain hb1 hbr
    by_cases hlt : k < L.length
    · obtain ⟨b1, off1, t, rfl, hb1l, ht, hct⟩ := (HRD.out.below hbr (Nat.le_refl _)).str_atp (i := k) hlt
      have hPt : P[k]? = some (tl t) := by rw [← HP.out, List.getElem?_map, ht]; rfl
      have hdr : P.drop k = tl t :: P.drop (k + 1) := by
        obtain ⟨h1, h2⟩ := List.getElem?_eq_some_iff.1 hPt
        rw [← h2]; exact List.drop_eq_getElem_cons h1
      rw [hdr] at hR
      have HB := hid (fun ho => pR0_bad hR.out ho)
      have HM := hid (fun (x : PT) ho => pR0_more (t := x) hR.out ho)
      have htz : t.size ≤ s.size := by rw [← tl_len]; exact HPL.out _ (List.mem_of_getElem? hPt)
      have hkm : (k : Int) < (L.length : Int) := by omega
      have hemp := tl_empty (s := t)
      have HOL := hid hol
      have holb : out.length ≤ L.length := by omega
      clear hR hdr ht hPt hol
      by_cases h2 : t.size = 2
      · have hx := tl_two h2
        have hie : t.toList.isEmpty = false := by rw [hemp]; exact decide_eq_false (by rw [hx]; simp)
        have hq3 : ((t.size : Int) == 2) = true := by simp; omega
        have hq4 : ¬ (2 : Int) < (t.size : Int) := by omega
        have hi : (1 : Int) < (t.size : Int) := by omega
        have hi0 : (0 : Int) < (t.size : Int) := by omega
        by_cases hx1 : t[1]'(by omega) = 112
        · rw [hx1] at hx
          have hq5 : (((t[1]'(by omega)).toNat : Int) != 112) = false := by rw [hx1]; rfl
          obtain ⟨x, hxx⟩ : ∃ x, t[0]'(by omega) = x := ⟨_, rfl⟩
          rw [hxx] at hx
          have hH := hid (fun w1 => l04Value_any (x.toNat : Int) (by omega) (by have := x.toNat_lt; omega) w1)
          have HNX := hid (HM.out _ (rdP0_two hx))
          generalize rDig (x.toNat : Int) = dg at *
          clear hx hx1 hemp HB HM
          go_wp2_with (first | (go_at_call 72; refine (hH.out _).mono ?_; rintro e w' ⟨rfl, rfl⟩) | (at_builtin; refine push_th rfl inf_pt (by omega) ho dg true _ rfl _ _ rfl rfl rfl (by first | rfl | simp) (by omega) (by omega) ?_; intro v5 w5 ho5 hb5 hg5))
          go_roundw
          case rel => exact hid ⟨k + 1, out ++ [(dg, true)], by go_num, by omega, by rw [List.length_append, HOL.out]; rfl, HNX, ho5, (by repeat' (first | exact Below.refl _ _ | (with_reducible first | assumption | exact Nat.le_refl _ | refine Below.alloc ?_ ?_ _ | refine Below.setCell ?_ ?_ _ | refine Below.drew ?_ | refine below_drewN ?_ _) | refine Below.trans ?_ (Below.mono (by assumption) ?_) | exact Below.size (by assumption) | omega | go_size | (simp at *; omega)))⟩
          case measure => simp [intOf]; omega
        · have hq5 : (((t[1]'(by omega)).toNat : Int) != 112) = true := by rw [show (112 : Int) = ((112 : UInt8).toNat : Int) from rfl, byte_eq]; exact decide_eq_true hx1
          have HZ := hid (HB.out (rdP0_else (fun x h => by rw [hx] at h; cases h) (fun x h => by rw [hx] at h; injection h with _ h; injection h with h _; exact hx1 h)))
          clear hx hx1 HB HM hemp
          go_wp2
          go_ret2
          exact ⟨by rw [← HRR.out, HZ.out]; exact RtRes.no _ _, (by repeat' (first | exact Below.refl _ _ | (with_reducible first | assumption | exact Nat.le_refl _ | refine Below.alloc ?_ ?_ _ | refine Below.setCell ?_ ?_ _ | refine Below.drew ?_ | refine below_drewN ?_ _) | refine Below.trans ?_ (Below.mono (by assumption) ?_) | exact Below.size (by assumption) | omega | go_size | (simp at *; omega)))⟩
      · have hq3 : ((t.size : Int) == 2) = false := by simp; omega
        by_cases h1 : t.size = 1
        · have hx := tl_one h1
          have hie : t.toList.isEmpty = false := by rw [hemp]; exact decide_eq_false (by rw [hx]; simp)
          have hq4 : ¬ (2 : Int) < (t.size : Int) := by omega
          have hi0 : (0 : Int) < (t.size : Int) := by omega
          obtain ⟨x, hxx⟩ : ∃ x, t[0]'(by omega) = x := ⟨_, rfl⟩
          rw [hxx] at hx
          have hH := hid (fun w1 => l04Value_any (x.toNat : Int) (by omega) (by have := x.toNat_lt; omega) w1)
          have HNX := hid (HM.out _ (rdP0_one hx))
          generalize rDig (x.toNat : Int) = dg at *
          clear hx hemp HB HM h2
          go_wp2_with (first | (go_at_call 72; refine (hH.out _).mono ?_; rintro e w' ⟨rfl, rfl⟩) | (at_builtin; refine push_th rfl inf_pt (by omega) ho dg false _ rfl _ _ rfl rfl rfl (by first | rfl | simp) (by omega) (by omega) ?_; intro v5 w5 ho5 hb5 hg5))
          go_roundw
          case rel => exact hid ⟨k + 1, out ++ [(dg, false)], by go_num, by omega, by rw [List.length_append, HOL.out]; rfl, HNX, ho5, (by repeat' (first | exact Below.refl _ _ | (with_reducible first | assumption | exact Nat.le_refl _ | refine Below.alloc ?_ ?_ _ | refine Below.setCell ?_ ?_ _ | refine Below.drew ?_ | refine below_drewN ?_ _) | refine Below.trans ?_ (Below.mono (by assumption) ?_) | exact Below.size (by assumption) | omega | go_size | (simp at *; omega)))⟩
          case measure => simp [intOf]; omega
        · have hll := tl_len t
          have HZ := hid (HB.out (rdP0_else (fun x h => by rw [h] at hll; simp at hll; omega) (fun x h => by rw [h] at hll; simp at hll; omega)))
          by_cases h0 : t.size = 0
          · have hie : t.toList.isEmpty = true := by rw [hemp]; exact decide_eq_true (List.eq_nil_of_length_eq_zero (by rw [hll]; exact h0))
            clear hll HB HM hemp h0 h1 h2
            go_wp2
            go_ret2
            exact ⟨by rw [← HRR.out, HZ.out]; exact RtRes.no _ _, (by repeat' (first | exact Below.refl _ _ | (with_reducible first | assumption | exact Nat.le_refl _ | refine Below.alloc ?_ ?_ _ | refine Below.setCell ?_ ?_ _ | refine Below.drew ?_ | refine below_drewN ?_ _) | refine Below.trans ?_ (Below.mono (by assumption) ?_) | exact Below.size (by assumption) | omega | go_size | (simp at *; omega)))⟩
          · have hie : t.toList.isEmpty = false := by rw [hemp]; exact decide_eq_false (fun e => h0 (by rw [← hll, e]; rfl))
            have hq4 : (2 : Int) < (t.size : Int) := by omega
            clear hll HB HM hemp h0 h1 h2
            go_wp2
            go_ret2
            exact ⟨by rw [← HRR.out, HZ.out]; exact RtRes.no _ _, (by repeat' (first | exact Below.refl _ _ | (with_reducible first | assumption | exact Nat.le_refl _ | refine Below.alloc ?_ ?_ _ | refine Below.setCell ?_ ?_ _ | refine Below.drew ?_ | refine below_drewN ?_ _) | refine Below.trans ?_ (Below.mono (by assumption) ?_) | exact Below.size (by assumption) | omega | go_size | (simp at *; omega)))⟩
    · have hkL : k = L.length := by omega
      have HZ : Hid (R = some out) := by
        have h := hR.out
        rw [List.drop_eq_nil_of_le (by have := HLN.out; omega)] at h
        exact pR0_end h
      obtain ⟨A5, c5, rfl⟩ := own_form ho
      have hT := l06List_any A5 out.length c5 out wr (by omega) (Rd.of_own ho)
      have hok : (ptsOk out && betweenB (out.length : Int) 1 8) = okJ out := rfl
      rw [hok] at hT
      have hT := hid hT
      have hoo := hid (show okOf (some out) = if okJ out then some out else none from rfl)
      generalize okJ out = ok at *
      have holb : out.length ≤ L.length := by omega
      clear hR hkL hok hol
      go_wp2_with (go_at_call 138; refine (hT.out).mono ?_; rintro e w' ⟨rfl, rfl⟩)
      go_ret2
      refine ⟨RtRes.mk (by omega) (own_more ho (by omega)) ?_ ?_, (by repeat' (first | exact Below.refl _ _ | (with_reducible first | assumption | exact Nat.le_refl _ | refine Below.alloc ?_ ?_ _ | refine Below.setCell ?_ ?_ _ | refine Below.drew ?_ | refine below_drewN ?_ _) | refine Below.trans ?_ (Below.mono (by assumption) ?_) | exact Below.size (by assumption) | omega | go_size | (simp at *; omega)))⟩
      · rw [← HRR.out, HZ.out, hoo.out]; cases ok <;> rfl
      · intro q' h
        rw [← HRR.out, HZ.out, hoo.out] at h
        cases ok
        · cases h
        · injection h with h; exact h.symm
theorem own_drewN {w : World} {base e sz n : Nat} {v : Value} {xs : List Value} (h : w.ownsRow base e sz v n xs) (k : Nat) : (w.drewN k).ownsRow base e sz v n xs := h
/-- A pattern that is read, and whether it has the form. -/
def FqRes (B : Nat) (r : Option Psg) (e : Ending) (w : World) : Prop := ∃ p : Psg, p.1.length ≤ 1099511627776 ∧ p.2.length ≤ 1099511627776 ∧ PaRes B (p, r.isSome) e w ∧ ∀ p', r = some p' → p' = p
theorem FqRes.no (B : Nat) (w : World) : FqRes B none (.returned (.tuple #[.agg #[.slice none 0 0, .slice none 0 0], .bool false])) w := ⟨([], []), by simp, by simp, PaRes.no B w false, fun p h => by cases h⟩
theorem FqRes.mk {B : Nat} {w : World} {A A' : Option Addr} {c c' : Nat} {a b : List PT} {x : Bool} {r : Option Psg} (ha : a.length ≤ 1099511627776) (hb : b.length ≤ 1099511627776) (hA : A = none → c = 0) (hA' : (A' = none → c' = 0) ∧ Rise (.slice A a.length c) (.slice A' b.length c')) (h : w.ownsRow B 83 2 (.slice A a.length c) a.length (ths a)) (h' : w.ownsRow B 83 2 (.slice A' b.length c') b.length (ths b)) (hx : r.isSome = x) (hr : ∀ p', r = some p' → p' = (a, b)) : FqRes B r (.returned (.tuple #[.agg #[.slice A a.length c, .slice A' b.length c'], .bool x])) w := by
  subst hx
  exact ⟨(a, b), ha, hb, PaRes.mk hA hA' h h', hr⟩
theorem rdForm2_ne {m : List UInt8} (h : (splitL 124 m).length ≠ 2) : rdForm2 m = none := by
  unfold rdForm2
  split
  · rename_i x y he; rw [he] at h; exact absurd rfl h
  · rfl
theorem two_of {L : List ByteArray} (h : L.length = 2) : ∃ x y, L = [x, y] := by
  match L, h with
  | [x, y], _ => exact ⟨x, y, rfl⟩
set_option maxRecDepth 100000 in
set_option maxHeartbeats 8000000 in
theorem l06Read_any (s : ByteArray) (w : World) (hs : s.size ≤ 1099511627775) :
    Calls Tryz.prog 77 #[.string s] w fun e w' => FqRes w.heap.size (rdPa (tl s)) e w' ∧ Below w.heap.size w w' := by
  by_cases h2 : 2 ≤ s.size
  · obtain ⟨n, hn⟩ : ∃ n, s.size = n + 1 := ⟨s.size - 1, by omega⟩
    have hq1 : ¬ (s.size : Int) < 2 := by omega
    have hi0 : (0 : Int) < (s.size : Int) := by omega
    have hp0 : 0 < s.size := by omega
    have hfst := tl_first hp0
    have hlst := tl_lastq hn
    by_cases h60 : s[0]'hp0 = 60
    · have hq2 : (((s[0]'hp0).toNat : Int) != 60) = false := by rw [h60]; rfl
      have hni : n < s.size := by omega
      have hnI : (n : Int) < (s.size : Int) := by omega
      have hn2 : (n : Int) ≤ (s.size : Int) := by omega
      have h1n : (1 : Int) ≤ (n : Int) := by omega
      have hsz : IntKind.i64.wrap ((s.size : Int) - 1) = (n : Int) := by rw [show (s.size : Int) - 1 = (n : Int) by omega]; exact IntWalk.i64_in (n : Int) (by omega)
      by_cases h62 : s[n]'hni = 62
      · have hq3 : (((s[n]'hni).toNat : Int) != 62) = false := by rw [h62]; rfl
        have hR : rdPa (tl s) = rdForm ((tl s).drop 1).dropLast := by
          rw [rdPa, if_pos ⟨by rw [tl_len]; exact h2, by rw [hfst, h60], by rw [hlst, h62]⟩]
        obtain ⟨sub, hsub⟩ : ∃ sub, s.extract 1 n = sub := ⟨_, rfl⟩
        have hsl : tl sub = ((tl s).drop 1).dropLast := by rw [← hsub]; exact tl_mid hn
        rw [hR, ← hsl, ← rdForm_split]
        have hsubz : sub.size ≤ 1099511627775 := by rw [← hsub, ByteArray.size_extract]; omega
        have hC := l01Split_any sub 124 (w.alloc (Obj.cells #[.slice none 0 0, .slice none 0 0] 31)) hsubz
        have hpl := (splitL_len 124 (tl sub)).2
        have hplen := (splitL_len 124 (tl sub)).1
        rw [tl_len] at hpl hplen
        obtain ⟨RR, hRR⟩ : ∃ RR, rdForm2 (tl sub) = RR := ⟨_, rfl⟩
        have hno := fun h => rdForm2_ne (m := tl sub) h
        rw [hRR] at hno ⊢
        have hyes : ∀ x y, splitL 124 (tl sub) = [x, y] → RR = rdTwo (rdJk x) (rdJk y) := fun x y h => by rw [← hRR, rdForm2, h]; exact rdTwo_k x y
        generalize splitL 124 (tl sub) = P at *
        have hC := hid hC
        have HPL := hid hpl
        have HNO := hid hno
        have HYES := hid hyes
        clear hfst hlst h60 h62 hR hsl hn hpl hno hyes hRR
        go_enter Tryz.func77, Tryz.ntmps77
        go_wp2_with fail
        refine hC.out.mono ?_
        rintro e w1 ⟨⟨v1, L, rfl, hL, hP⟩, hb1⟩
        have hln : L.length = P.length := by rw [← hP, List.length_map]
        obtain ⟨A, c, rfl⟩ := own_form hL
        have z1 := hb1.size
        have hX := (Bx.new w 31 #[.slice none 0 0, .slice none 0 0]).below hb1 (by simp)
        have hlw : w.heap.size < w1.heap.size := by simp at z1; omega
        have hB1 : Below w.heap.size w w1 := (by repeat' (first | exact Below.refl _ _ | (with_reducible first | assumption | exact Nat.le_refl _ | refine Below.alloc ?_ ?_ _ | refine Below.setCell ?_ ?_ _ | refine Below.drew ?_ | refine below_drewN ?_ _) | refine Below.trans ?_ (Below.mono (by assumption) ?_) | exact Below.size (by assumption) | omega | go_size | (simp at *; omega)))
        have e0 := hX.cell 0
        have e1 := hX.cell 1
        have f0 := hX.frozen 0
        have f1 := hX.frozen 1
        replace e0 : w1.cell? ⟨w.heap.size, 0, none⟩ = some (.slice none 0 0) := e0
        replace e1 : w1.cell? ⟨w.heap.size, 1, none⟩ = some (.slice none 0 0) := e1
        by_cases hL2 : L.length = 2
        · obtain ⟨x, y, rfl⟩ := two_of hL2
          have hPe : P = [tl x, tl y] := by rw [← hP]; rfl
          have hry := HYES.out _ _ hPe
          have hxz : x.size ≤ 1099511627775 := by rw [← tl_len]; have := HPL.out (tl x) (by rw [hPe]; simp); omega
          have hyz : y.size ≤ 1099511627775 := by rw [← tl_len]; have := HPL.out (tl y) (by rw [hPe]; simp); omega
          have hRD := Rd.of_own hL
          obtain ⟨bb, off, x', rfl, hbb, hx0, hc0⟩ := hRD.str_atp (i := 0) (by simp)
          obtain ⟨bb', off', y', hA', hbb', hy0, hc1⟩ := hRD.str_atp (i := 1) (by simp)
          injection hA' with hA'
          injection hA' with hA1 hA2
          subst hA1 hA2
          have : x = x' := by simpa using hx0
          subst this
          have : y = y' := by simpa using hy0
          subst this
          rw [Nat.add_zero] at hc0
          obtain ⟨o1, hj1⟩ : ∃ o, rdJk (tl x) = o := ⟨_, rfl⟩
          obtain ⟨o2, hj2⟩ : ∃ o, rdJk (tl y) = o := ⟨_, rfl⟩
          rw [hj1, hj2] at hry
          have hT1 := l06Throws_any x w1 hxz
          have hT2 := hid (fun w9 => l06Throws_any y w9 hyz)
          rw [hj1] at hT1
          rw [hj2] at hT2
          have hT1 := hid hT1
          have hRRe := hid hry
          have HCC := hid (fun (w9 : World) (b : Below w1.heap.size w1 w9) => (b.cell (p := ⟨bb, off + 1, none⟩) hbb).trans hc1)
          clear hC hL hP hPe hry HNO HYES HPL hj1 hj2 hx0 hy0 hRD hbb' hL2 hln hb1 hc1
          go_wp2_with fail
          refine hT1.out.mono ?_
          rintro e w2 ⟨⟨a, A1, d1, hA1, ha9, rfl, ho1, har⟩, hb2⟩
          have hX2 := hX.below hb2 hX.lt
          have hB2 := bchain hB1 hb2
          have z2 := hb2.size
          have hc1 := HCC.out w2 hb2
          clear hT1 hb2 hX HCC hc0 e0 e1 f0 f1
          go_wp2_with fail
          refine (hT2.out _).mono ?_
          rintro e w3 ⟨⟨b, A2, d2, hA2, hb9, rfl, ho2, hbr⟩, hb3⟩
          replace hA2 : (A2 = none → d2 = 0) ∧ Rise (.slice A1 a.length d1) (.slice A2 b.length d2) := ⟨hA2, fun g h hg hh => Nat.lt_of_lt_of_le (ho1.lt g hg).2 (ho2.lt h hh).1⟩
          have hX3 := hX2.below hb3 hX2.lt
          have hB3 := bchain hB2 hb3
          have z3 := hb3.size
          replace ho1 := own_below ho1 hb3
          have hgr : w.heap.size < w3.heap.size := by omega
          have e0 := hX3.cell 0
          have e1 := hX3.cell 1
          have f0 := hX3.frozen 0
          have f1 := hX3.frozen 1
          replace e0 : w3.cell? ⟨w.heap.size, 0, none⟩ = some (.slice none 0 0) := e0
          replace e1 : w3.cell? ⟨w.heap.size, 1, none⟩ = some (.slice none 0 0) := e1
          have HO1 := hid ho1
          have HO2 := hid ho2
          have HAR := hid har
          have HBR := hid hbr
          have hRG : Hid (RR = rdTwo o1 o2) := hRRe
          clear hT2 hX2 hb3 hX3 ho1 ho2 har hbr hc1 hRRe
          cases o1 with
          | none =>
            go_wp2
            go_region
            go_wp2
            refine bodyPost_ret (v := .tuple #[.agg #[.slice A1 a.length d1, .slice A2 b.length d2], .bool false]) ?_ rfl ?_
            · simp (maxDischargeDepth := 8) [results, Tryz.results77, go_sem, *]
            exact ⟨(show FqRes w.heap.size RR _ _ from by rw [hRG.out]; exact FqRes.mk ha9 hb9 hA1 hA2 (own_more ((own_set (own_set HO1.out (p := ⟨w.heap.size, 0, none⟩) (by show w.heap.size < _; omega) _) (p := ⟨w.heap.size, 1, none⟩) (by show w.heap.size < _; omega) _).alloc _) (by omega)) (own_more ((own_set (own_set HO2.out (p := ⟨w.heap.size, 0, none⟩) (by show w.heap.size < _; omega) _) (p := ⟨w.heap.size, 1, none⟩) (by show w.heap.size < _; omega) _).alloc _) (by omega)) (by cases o2 <;> rfl) (fun p' h => by cases o2 <;> cases h)), (by repeat' (first | exact Below.refl _ _ | (with_reducible first | assumption | exact Nat.le_refl _ | refine Below.alloc ?_ ?_ _ | refine Below.setCell ?_ ?_ _ | refine Below.drew ?_ | refine below_drewN ?_ _) | refine Below.trans ?_ (Below.mono (by assumption) ?_) | exact Below.size (by assumption) | omega | go_size | (simp at *; omega)))⟩
          | some a1 =>
            cases o2 with
            | none =>
              go_wp2
              go_region
              go_wp2
              refine bodyPost_ret (v := .tuple #[.agg #[.slice A1 a.length d1, .slice A2 b.length d2], .bool false]) ?_ rfl ?_
              · simp (maxDischargeDepth := 8) [results, Tryz.results77, go_sem, *]
              exact ⟨(show FqRes w.heap.size RR _ _ from by rw [hRG.out]; exact FqRes.mk ha9 hb9 hA1 hA2 (own_more ((own_set (own_set HO1.out (p := ⟨w.heap.size, 0, none⟩) (by show w.heap.size < _; omega) _) (p := ⟨w.heap.size, 1, none⟩) (by show w.heap.size < _; omega) _).alloc _) (by omega)) (own_more ((own_set (own_set HO2.out (p := ⟨w.heap.size, 0, none⟩) (by show w.heap.size < _; omega) _) (p := ⟨w.heap.size, 1, none⟩) (by show w.heap.size < _; omega) _).alloc _) (by omega)) rfl (fun p' h => by cases h)), (by repeat' (first | exact Below.refl _ _ | (with_reducible first | assumption | exact Nat.le_refl _ | refine Below.alloc ?_ ?_ _ | refine Below.setCell ?_ ?_ _ | refine Below.drew ?_ | refine below_drewN ?_ _) | refine Below.trans ?_ (Below.mono (by assumption) ?_) | exact Below.size (by assumption) | omega | go_size | (simp at *; omega)))⟩
            | some b1 =>
              have ea := HAR.out a1 rfl
              have eb := HBR.out b1 rfl
              subst ea eb
              obtain ⟨W, hW⟩ : ∃ W, (w3.alloc (Obj.cells #[.slice A1 a1.length d1, .slice A2 b1.length d2] 31)).drew = W := ⟨_, rfl⟩
              have hbW : Below w3.heap.size w3 W := by rw [← hW]; exact (by repeat' (first | exact Below.refl _ _ | (with_reducible first | assumption | exact Nat.le_refl _ | refine Below.alloc ?_ ?_ _ | refine Below.setCell ?_ ?_ _ | refine Below.drew ?_ | refine below_drewN ?_ _) | refine Below.trans ?_ (Below.mono (by assumption) ?_) | exact Below.size (by assumption) | omega | go_size | (simp at *; omega)))
              have hBX : Bx W w3.heap.size 31 #[.slice A1 a1.length d1, .slice A2 b1.length d2] := by rw [← hW]; exact (Bx.new w3 _ _).drew
              have HC := l06Shape_quiet w3.heap.size A1 A2 a1.length d1 b1.length d2 (a1, b1) W (by omega) (by omega) hBX (((Rd.of_own HO1.out).below hbW (Nat.le_refl _)).more hbW.size) (((Rd.of_own HO2.out).below hbW (Nat.le_refl _)).more hbW.size)
              have hro : rdTwo (some a1) (some b1) = if psSh (a1, b1) then some (a1, b1) else none := rfl
              obtain ⟨pb, hpb⟩ : ∃ pb, psSh (a1, b1) = pb := ⟨_, rfl⟩
              rw [hpb] at HC hro
              rw [← hW] at HC
              have HC := hid HC
              have HRO := hid hro
              clear HAR HBR hW hpb hbW hro hBX
              go_wp2
              go_region_with (go_at_call 114; with_reducible refine HC.out.mono ?_; rintro e w5 ⟨rfl, kk, rfl⟩)
              all_goals
                go_wp2
                refine bodyPost_ret (v := .tuple #[.agg #[.slice A1 a1.length d1, .slice A2 b1.length d2], .bool pb]) ?_ rfl ?_
                · simp (maxDischargeDepth := 8) [results, Tryz.results77, go_sem, *]
                refine ⟨?_, (by repeat' (first | exact Below.refl _ _ | (with_reducible first | assumption | exact Nat.le_refl _ | refine Below.alloc ?_ ?_ _ | refine Below.setCell ?_ ?_ _ | refine Below.drew ?_ | refine below_drewN ?_ _) | refine Below.trans ?_ (Below.mono (by assumption) ?_) | exact Below.size (by assumption) | omega | go_size | (simp at *; omega)))⟩
                rw [hRG.out]
                refine FqRes.mk ha9 hb9 hA1 hA2 (own_more (own_set (own_set (own_drewN (HO1.out.alloc _) _) (p := ⟨w.heap.size, 0, none⟩) (by show w.heap.size < _; omega) _) (p := ⟨w.heap.size, 1, none⟩) (by show w.heap.size < _; omega) _) (by omega)) (own_more (own_set (own_set (own_drewN (HO2.out.alloc _) _) (p := ⟨w.heap.size, 0, none⟩) (by show w.heap.size < _; omega) _) (p := ⟨w.heap.size, 1, none⟩) (by show w.heap.size < _; omega) _) (by omega)) ?_ ?_
                · rw [HRO.out]; cases pb <;> rfl
                · intro p' h
                  rw [HRO.out] at h
                  cases pb
                  · cases h
                  · injection h with h; exact h.symm
        · have hq4 : ((L.length : Int) != 2) = true := by simp; omega
          have HZ := hid (HNO.out (by rw [← hln]; exact hL2))
          clear hC hL hP HNO HYES HPL hL2 hln
          go_wp2
          refine bodyPost_ret (v := .tuple #[.agg #[.slice none 0 0, .slice none 0 0], .bool false]) ?_ rfl ?_
          · simp (maxDischargeDepth := 8) [results, Tryz.results77, go_sem, *]
          exact ⟨by rw [HZ.out]; exact FqRes.no _ _, (by repeat' (first | exact Below.refl _ _ | (with_reducible first | assumption | exact Nat.le_refl _ | refine Below.alloc ?_ ?_ _ | refine Below.setCell ?_ ?_ _ | refine Below.drew ?_ | refine below_drewN ?_ _) | refine Below.trans ?_ (Below.mono (by assumption) ?_) | exact Below.size (by assumption) | omega | go_size | (simp at *; omega)))⟩
      · have hq3 : (((s[n]'hni).toNat : Int) != 62) = true := by rw [show (62 : Int) = ((62 : UInt8).toNat : Int) from rfl, byte_eq]; exact decide_eq_true h62
        have HZ : Hid (rdPa (tl s) = none) := rdPa_no (fun h => h62 (by have := h.2.2; rw [hlst] at this; injection this))
        clear hfst hlst h60 h62 hn
        go_enter Tryz.func77, Tryz.ntmps77
        go_wp2
        refine bodyPost_ret (v := .tuple #[.agg #[.slice none 0 0, .slice none 0 0], .bool false]) ?_ rfl ?_
        · simp (maxDischargeDepth := 8) [results, Tryz.results77, go_sem, *]
        exact ⟨by rw [HZ.out]; exact FqRes.no _ _, (by repeat' (first | exact Below.refl _ _ | (with_reducible first | assumption | exact Nat.le_refl _ | refine Below.alloc ?_ ?_ _ | refine Below.setCell ?_ ?_ _ | refine Below.drew ?_ | refine below_drewN ?_ _) | refine Below.trans ?_ (Below.mono (by assumption) ?_) | exact Below.size (by assumption) | omega | go_size | (simp at *; omega)))⟩
    · have hq2 : (((s[0]'hp0).toNat : Int) != 60) = true := by rw [show (60 : Int) = ((60 : UInt8).toNat : Int) from rfl, byte_eq]; exact decide_eq_true h60
      have HZ : Hid (rdPa (tl s) = none) := rdPa_no (fun h => h60 (by have := h.2.1; rw [hfst] at this; injection this))
      clear hfst hlst h60 hn
      go_enter Tryz.func77, Tryz.ntmps77
      go_wp2
      refine bodyPost_ret (v := .tuple #[.agg #[.slice none 0 0, .slice none 0 0], .bool false]) ?_ rfl ?_
      · simp (maxDischargeDepth := 8) [results, Tryz.results77, go_sem, *]
      exact ⟨by rw [HZ.out]; exact FqRes.no _ _, (by repeat' (first | exact Below.refl _ _ | (with_reducible first | assumption | exact Nat.le_refl _ | refine Below.alloc ?_ ?_ _ | refine Below.setCell ?_ ?_ _ | refine Below.drew ?_ | refine below_drewN ?_ _) | refine Below.trans ?_ (Below.mono (by assumption) ?_) | exact Below.size (by assumption) | omega | go_size | (simp at *; omega)))⟩
  · have hq1 : (s.size : Int) < 2 := by omega
    have HZ : Hid (rdPa (tl s) = none) := rdPa_no (fun h => by have := h.1; rw [tl_len] at this; omega)
    go_enter Tryz.func77, Tryz.ntmps77
    go_wp2
    refine bodyPost_ret (v := .tuple #[.agg #[.slice none 0 0, .slice none 0 0], .bool false]) ?_ rfl ?_
    · simp (maxDischargeDepth := 8) [results, Tryz.results77, go_sem, *]
    exact ⟨by rw [HZ.out]; exact FqRes.no _ _, (by repeat' (first | exact Below.refl _ _ | (with_reducible first | assumption | exact Nat.le_refl _ | refine Below.alloc ?_ ?_ _ | refine Below.setCell ?_ ?_ _ | refine Below.drew ?_ | refine below_drewN ?_ _) | refine Below.trans ?_ (Below.mono (by assumption) ?_) | exact Below.size (by assumption) | omega | go_size | (simp at *; omega)))⟩
end Go.Proofs.YtgphkfnobmponaaGreat
