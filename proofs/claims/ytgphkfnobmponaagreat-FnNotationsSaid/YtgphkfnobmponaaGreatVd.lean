/- The walk of the law FnNotations. -/
import Derived.Test.YtgphkfnobmponaaGreatG51
import Derived.Test.YtgphkfnobmponaaGreatG26
import Derived.Test.YtgphkfnobmponaaGreatG05
import Derived.Test.YtgphkfnobmponaaGreatG14
import Derived.Test.YtgphkfnobmponaaGreatG49
import Derived.Deep.RegionHeld3
namespace Go.Proofs.YtgphkfnobmponaaGreat
open Go.RowKit
set_option linter.unusedVariables false

theorem arr_get {α : Type} {l : List α} {i : Nat} {x : α} (h : l[i]? = some x) : l.toArray[i]? = some x := by simpa using h
theorem at_zero {α : Type} {a : α} {l : List α} : (a :: l)[0]? = some a := rfl
theorem at_succ {α : Type} {a x : α} {l : List α} {i : Nat} (h : l[i]? = some x) : (a :: l)[i + 1]? = some x := h
theorem at8 {α : Type} {a b c d e f g k x : α} {l : List α} {i : Nat} (h : l[i]? = some x) : (a :: b :: c :: d :: e :: f :: g :: k :: l)[i + 8]? = some x := h
theorem fault_named {k : Int} (h0 : 0 ≤ k) (h5 : k ≤ 5) : (rFaultName k).toList.isEmpty = false := by
  have h : k = 0 ∨ k = 1 ∨ k = 2 ∨ k = 3 ∨ k = 4 ∨ k = 5 := by omega
  rw [tl_empty]
  refine decide_eq_false ?_
  rcases h with rfl | rfl | rfl | rfl | rfl | rfl <;> decide
set_option maxRecDepth 100000 in
set_option maxHeartbeats 16000000 in
theorem fnNotations_main (w : World) (A : Option Addr) (n c : Nat) (xs : List Int) (hK : Came .u8 w A n c xs) (hl : n ≤ 4096) :
    Calls Tryz.prog 3 #[.slice A n c] w fun e w' => e = .returned (.bool true) ∧ Below w.heap.size w w' := by
  have hq : decide (4096 < n) = false := by simp; omega
  have hL := f6big_any A n c w (by omega)
  rw [hq] at hL
  have hL := hid hL
  have hR := hid (fun (w1 : World) (b : Below w.heap.size w w1) => ((Rd.of_came hK).below b (Nat.le_refl _)).more b.size)
  have hX := hid hK.bytes
  have HB : Hid (Below w.heap.size w w) := Below.refl _ _
  clear hK hq
  go_enter Tryz.func3, Tryz.ntmps3
  go_wp2_with (go_at_call 4; refine (hL.out).mono ?_; rintro e w' ⟨rfl, rfl⟩)
  refine (DrawNotationText_any A n c xs _ (by omega) hX.out (hR.out _ HB.out)).mono ?_
  rintro e w1 ⟨⟨⟨k, p, m, y, q1, q2⟩, s, rfl, hsm, hrd⟩, hb1⟩
  simp only [ntV]
  have SM1 := hid hsm
  have N1 := hid hrd
  clear hL hsm hrd
  have HB := hid (bchain HB.out hb1)
  clear hb1
  have hal : Below w1.heap.size w1 (w1.alloc (Obj.cells #[.int .i64 k, .slice s.A p.length s.c, .slice s.A2 m.length s.c2, .slice s.A3 y.length s.c3, .slice s.A4 q1.length s.c4, .slice s.A5 q2.length s.c5] 33)) := (by repeat' (first | exact Below.refl _ _ | (with_reducible first | assumption | exact Nat.le_refl _ | refine Below.alloc ?_ ?_ _ | refine Below.setCell ?_ ?_ _ | refine Below.drew ?_ | refine below_drewN ?_ _) | refine Below.trans ?_ (Below.mono (by assumption) ?_) | exact Below.size (by assumption) | omega | go_size | (simp at *; omega)))
  have HB := hid (bchain HB.out hal)
  have X1 := hid (Bx.new w1 33 #[.int .i64 k, .slice s.A p.length s.c, .slice s.A2 m.length s.c2, .slice s.A3 y.length s.c3, .slice s.A4 q1.length s.c4, .slice s.A5 q2.length s.c5])
  have R1 := hid (N1.out.below hal)
  clear hal N1
  have l1 : w1.heap.size < (w1.alloc (Obj.cells #[.int .i64 k, .slice s.A p.length s.c, .slice s.A2 m.length s.c2, .slice s.A3 y.length s.c3, .slice s.A4 q1.length s.c4, .slice s.A5 q2.length s.c5] 33)).heap.size := X1.out.lt
  obtain ⟨t, ht⟩ : ∃ t, st (rNotationText (k, p, m, y, (q1, q2))) = t := ⟨_, rfl⟩
  have HT := hid ht
  have htb := text_back (k, p, m, y, (q1, q2))
  have hTT : tl t = rNotationText (k, p, m, y, (q1, q2)) := by rw [← ht, tl_st]
  have hts : t.size ≤ 200 := by
    rw [← ht, st_size]
    rcases htb with ⟨_, e, _⟩ | ⟨_, _, h, _⟩
    · rw [e]; simp
    · exact h
  rw [← hTT] at htb
  have HTB := hid htb
  clear ht htb hTT
  go_wp2_with fail
  obtain ⟨V1, hV⟩ : ∃ V, w1.alloc (Obj.cells #[.int .i64 k, .slice s.A p.length s.c, .slice s.A2 m.length s.c2, .slice s.A3 y.length s.c3, .slice s.A4 q1.length s.c4, .slice s.A5 q2.length s.c5] 33) = V := ⟨_, rfl⟩
  rw [hV] at HB X1 R1 ⊢
  clear hV
  clear l1
  have hC := NotationText_any k p m y q1 q2 s V1 SM1.out R1.out
  rw [HT.out] at hC
  replace hC := hid hC
  refine hC.out.mono ?_
  rintro e w2 ⟨rfl, hb2⟩
  clear hC
  have X1 := hid (X1.out.below hb2 X1.out.lt)
  have R1 := hid (R1.out.below hb2)
  have HB := hid (bchain HB.out hb2)
  clear hb2
  obtain ⟨⟨⟨k2, p2, m2, y2, r1, r2⟩, ok⟩, hbk⟩ : ∃ r, rReadNotation (tl t) = r := ⟨_, rfl⟩
  have HBK := hid hbk
  clear hbk
  have hC := ReadNotation_any t w2 (by omega)
  rw [HBK.out] at hC
  replace hC := hid hC
  go_wp2_with fail
  refine (hC.out).mono ?_
  rintro e w3 ⟨hr, hb3⟩
  obtain ⟨s2, rfl, ho, -⟩ := hr.six
  have N2 := hid ho.rd
  clear hr ho hC
  unfold Six.cells
  simp only
  have X1 := hid (X1.out.below hb3 X1.out.lt)
  have R1 := hid (R1.out.below hb3)
  have HB := hid (bchain HB.out hb3)
  clear hb3
  have hal : Below w3.heap.size w3 (w3.alloc (Obj.cells #[.int .i64 k2, .slice s2.A p2.length s2.c, .slice s2.A2 m2.length s2.c2, .slice s2.A3 y2.length s2.c3, .slice s2.A4 r1.length s2.c4, .slice s2.A5 r2.length s2.c5] 33)) := (by repeat' (first | exact Below.refl _ _ | (with_reducible first | assumption | exact Nat.le_refl _ | refine Below.alloc ?_ ?_ _ | refine Below.setCell ?_ ?_ _ | refine Below.drew ?_ | refine below_drewN ?_ _) | refine Below.trans ?_ (Below.mono (by assumption) ?_) | exact Below.size (by assumption) | omega | go_size | (simp at *; omega)))
  have X1 := hid (X1.out.below hal X1.out.lt)
  have R1 := hid (R1.out.below hal)
  have HB := hid (bchain HB.out hal)
  have X2 := hid (Bx.new w3 33 #[.int .i64 k2, .slice s2.A p2.length s2.c, .slice s2.A2 m2.length s2.c2, .slice s2.A3 y2.length s2.c3, .slice s2.A4 r1.length s2.c4, .slice s2.A5 r2.length s2.c5])
  have R2 := hid (N2.out.below hal)
  clear hal N2
  have l2 : w3.heap.size < (w3.alloc (Obj.cells #[.int .i64 k2, .slice s2.A p2.length s2.c, .slice s2.A2 m2.length s2.c2, .slice s2.A3 y2.length s2.c3, .slice s2.A4 r1.length s2.c4, .slice s2.A5 r2.length s2.c5] 33)).heap.size := X2.out.lt
  go_wp2_with fail
  obtain ⟨V2, hV⟩ : ∃ V, w3.alloc (Obj.cells #[.int .i64 k2, .slice s2.A p2.length s2.c, .slice s2.A2 m2.length s2.c2, .slice s2.A3 y2.length s2.c3, .slice s2.A4 r1.length s2.c4, .slice s2.A5 r2.length s2.c5] 33) = V := ⟨_, rfl⟩
  rw [hV] at HB X1 R1 X2 R2 ⊢
  clear hV
  clear l2
  refine (DrawNotationFault_any A n c xs _ (by omega) hX.out (hR.out _ HB.out)).mono ?_
  rintro e w4 ⟨⟨S, hS, rfl⟩, hb4⟩
  have X1 := hid (X1.out.below hb4 X1.out.lt)
  have R1 := hid (R1.out.below hb4)
  have X2 := hid (X2.out.below hb4 X2.out.lt)
  have R2 := hid (R2.out.below hb4)
  have HB := hid (bchain HB.out hb4)
  clear hb4
  obtain ⟨⟨F1, F2⟩, hF⟩ : ∃ r, rNotationFault S = r := ⟨_, rfl⟩
  obtain ⟨⟨⟨k3, p3, m3, y3, a3, b3⟩, one⟩, hr3⟩ : ∃ r, rReadNotation (tl S) = r := ⟨_, rfl⟩
  have hfn := fault_note S
  have SM3 : Hid (NtSm (k3, p3, m3, y3, (a3, b3))) := by have h := sm_read (tl S); rw [hr3] at h; exact h
  have HKD : Hid (one = true → k3 = (kinR (tl S) : Int)) := by
    refine hid fun h => ?_
    rw [h] at hr3
    exact read_kind hr3
  rw [hF, hr3] at hfn
  simp only at hfn
  obtain ⟨hf1, hf2, hf3⟩ := hfn
  have HF1 := hid hf1
  have HF := hid hF
  have HR3 := hid hr3
  clear hF hr3 hf1
  have hSz : S.size ≤ 1099511627775 := by omega
  have hC := NotationFault_any S hSz w4
  rw [HF.out] at hC
  replace hC := hid hC
  go_wp2_with fail
  refine (hC.out).mono ?_
  rintro e w5 ⟨rfl, hb5⟩
  clear hC
  have X1 := hid (X1.out.below hb5 X1.out.lt)
  have R1 := hid (R1.out.below hb5)
  have X2 := hid (X2.out.below hb5 X2.out.lt)
  have R2 := hid (R2.out.below hb5)
  have HB := hid (bchain HB.out hb5)
  clear hb5
  have hC := specNotationFault_any S hSz w5
  rw [HF.out] at hC
  replace hC := hid hC
  go_wp2_with fail
  refine (hC.out).mono ?_
  rintro e w6 ⟨rfl, hb6⟩
  clear hC
  have X1 := hid (X1.out.below hb6 X1.out.lt)
  have R1 := hid (R1.out.below hb6)
  have X2 := hid (X2.out.below hb6 X2.out.lt)
  have R2 := hid (R2.out.below hb6)
  have HB := hid (bchain HB.out hb6)
  clear hb6
  have hC := ReadNotation_any S w6 (by omega)
  rw [HR3.out] at hC
  replace hC := hid hC
  go_wp2_with fail
  refine (hC.out).mono ?_
  rintro e w7 ⟨hr, hb7⟩
  obtain ⟨s3, rfl, ho, -⟩ := hr.six
  have N3 := hid ho.rd
  clear hr ho hC
  unfold Six.cells
  simp only
  have X1 := hid (X1.out.below hb7 X1.out.lt)
  have R1 := hid (R1.out.below hb7)
  have X2 := hid (X2.out.below hb7 X2.out.lt)
  have R2 := hid (R2.out.below hb7)
  have HB := hid (bchain HB.out hb7)
  clear hb7
  have hal : Below w7.heap.size w7 (w7.alloc (Obj.cells #[.int .i64 k3, .slice s3.A p3.length s3.c, .slice s3.A2 m3.length s3.c2, .slice s3.A3 y3.length s3.c3, .slice s3.A4 a3.length s3.c4, .slice s3.A5 b3.length s3.c5] 33)) := (by repeat' (first | exact Below.refl _ _ | (with_reducible first | assumption | exact Nat.le_refl _ | refine Below.alloc ?_ ?_ _ | refine Below.setCell ?_ ?_ _ | refine Below.drew ?_ | refine below_drewN ?_ _) | refine Below.trans ?_ (Below.mono (by assumption) ?_) | exact Below.size (by assumption) | omega | go_size | (simp at *; omega)))
  have X1 := hid (X1.out.below hal X1.out.lt)
  have R1 := hid (R1.out.below hal)
  have X2 := hid (X2.out.below hal X2.out.lt)
  have R2 := hid (R2.out.below hal)
  have HB := hid (bchain HB.out hal)
  have X3 := hid (Bx.new w7 33 #[.int .i64 k3, .slice s3.A p3.length s3.c, .slice s3.A2 m3.length s3.c2, .slice s3.A3 y3.length s3.c3, .slice s3.A4 a3.length s3.c4, .slice s3.A5 b3.length s3.c5])
  have R3 := hid (N3.out.below hal)
  clear hal N3
  have l3 : w7.heap.size < (w7.alloc (Obj.cells #[.int .i64 k3, .slice s3.A p3.length s3.c, .slice s3.A2 m3.length s3.c2, .slice s3.A3 y3.length s3.c3, .slice s3.A4 a3.length s3.c4, .slice s3.A5 b3.length s3.c5] 33)).heap.size := X3.out.lt
  go_wp2_with fail
  obtain ⟨V3, hV⟩ : ∃ V, w7.alloc (Obj.cells #[.int .i64 k3, .slice s3.A p3.length s3.c, .slice s3.A2 m3.length s3.c2, .slice s3.A3 y3.length s3.c3, .slice s3.A4 a3.length s3.c4, .slice s3.A5 b3.length s3.c5] 33) = V := ⟨_, rfl⟩
  rw [hV] at HB X1 R1 X2 R2 X3 R3 ⊢
  clear hV
  clear l3
  have hC := specReadNotation_any S V3 hSz
  rw [HR3.out] at hC
  replace hC := hid hC
  refine hC.out.mono ?_
  rintro e w8 ⟨⟨s4, rfl, ho⟩, hb8⟩
  have N4 := hid ho
  clear ho hC
  unfold Six.cells
  simp only
  have X1 := hid (X1.out.below hb8 X1.out.lt)
  have R1 := hid (R1.out.below hb8)
  have X2 := hid (X2.out.below hb8 X2.out.lt)
  have R2 := hid (R2.out.below hb8)
  have X3 := hid (X3.out.below hb8 X3.out.lt)
  have R3 := hid (R3.out.below hb8)
  have HB := hid (bchain HB.out hb8)
  clear hb8
  have hal : Below w8.heap.size w8 (w8.alloc (Obj.cells #[.int .i64 k3, .slice s4.A p3.length s4.c, .slice s4.A2 m3.length s4.c2, .slice s4.A3 y3.length s4.c3, .slice s4.A4 a3.length s4.c4, .slice s4.A5 b3.length s4.c5] 33)) := (by repeat' (first | exact Below.refl _ _ | (with_reducible first | assumption | exact Nat.le_refl _ | refine Below.alloc ?_ ?_ _ | refine Below.setCell ?_ ?_ _ | refine Below.drew ?_ | refine below_drewN ?_ _) | refine Below.trans ?_ (Below.mono (by assumption) ?_) | exact Below.size (by assumption) | omega | go_size | (simp at *; omega)))
  have X1 := hid (X1.out.below hal X1.out.lt)
  have R1 := hid (R1.out.below hal)
  have X2 := hid (X2.out.below hal X2.out.lt)
  have R2 := hid (R2.out.below hal)
  have X3 := hid (X3.out.below hal X3.out.lt)
  have R3 := hid (R3.out.below hal)
  have HB := hid (bchain HB.out hal)
  have X4 := hid (Bx.new w8 33 #[.int .i64 k3, .slice s4.A p3.length s4.c, .slice s4.A2 m3.length s4.c2, .slice s4.A3 y3.length s4.c3, .slice s4.A4 a3.length s4.c4, .slice s4.A5 b3.length s4.c5])
  have R4 := hid (N4.out.below hal)
  clear hal N4
  have l4 : w8.heap.size < (w8.alloc (Obj.cells #[.int .i64 k3, .slice s4.A p3.length s4.c, .slice s4.A2 m3.length s4.c2, .slice s4.A3 y3.length s4.c3, .slice s4.A4 a3.length s4.c4, .slice s4.A5 b3.length s4.c5] 33)).heap.size := X4.out.lt
  go_wp2_with fail
  obtain ⟨V4, hV⟩ : ∃ V, w8.alloc (Obj.cells #[.int .i64 k3, .slice s4.A p3.length s4.c, .slice s4.A2 m3.length s4.c2, .slice s4.A3 y3.length s4.c3, .slice s4.A4 a3.length s4.c4, .slice s4.A5 b3.length s4.c5] 33) = V := ⟨_, rfl⟩
  rw [hV] at HB X1 R1 X2 R2 X3 R3 X4 R4 ⊢
  clear hV
  clear l4
  refine (DrawNoteName_any A n c xs _ (by omega) hX.out (hR.out _ HB.out)).mono ?_
  rintro e w9 ⟨⟨kk, rfl, kk0, kk1⟩, hb9⟩
  have X1 := hid (X1.out.below hb9 X1.out.lt)
  have R1 := hid (R1.out.below hb9)
  have X2 := hid (X2.out.below hb9 X2.out.lt)
  have R2 := hid (R2.out.below hb9)
  have X3 := hid (X3.out.below hb9 X3.out.lt)
  have R3 := hid (R3.out.below hb9)
  have X4 := hid (X4.out.below hb9 X4.out.lt)
  have R4 := hid (R4.out.below hb9)
  have HB := hid (bchain HB.out hb9)
  clear hb9
  go_wp2_with fail
  refine (DrawFaultName_any A n c xs _ (by omega) hX.out (hR.out _ HB.out)).mono ?_
  rintro e w10 ⟨⟨ff, rfl, ff0, ff1⟩, hb10⟩
  have X1 := hid (X1.out.below hb10 X1.out.lt)
  have R1 := hid (R1.out.below hb10)
  have X2 := hid (X2.out.below hb10 X2.out.lt)
  have R2 := hid (R2.out.below hb10)
  have X3 := hid (X3.out.below hb10 X3.out.lt)
  have R3 := hid (R3.out.below hb10)
  have X4 := hid (X4.out.below hb10 X4.out.lt)
  have R4 := hid (R4.out.below hb10)
  have HB := hid (bchain HB.out hb10)
  clear hb10
  go_wp2_with fail
  refine (DrawKindOfText_any A n c xs _ (by omega) hX.out (hR.out _ HB.out)).mono ?_
  rintro e w11 ⟨⟨U, hU, rfl⟩, hb11⟩
  have X1 := hid (X1.out.below hb11 X1.out.lt)
  have R1 := hid (R1.out.below hb11)
  have X2 := hid (X2.out.below hb11 X2.out.lt)
  have R2 := hid (R2.out.below hb11)
  have X3 := hid (X3.out.below hb11 X3.out.lt)
  have R3 := hid (R3.out.below hb11)
  have X4 := hid (X4.out.below hb11 X4.out.lt)
  have R4 := hid (R4.out.below hb11)
  have HB := hid (bchain HB.out hb11)
  clear hb11
  clear kk0 kk1 ff0 ff1
  obtain ⟨W, hW⟩ : ∃ W, W = w11 := ⟨_, rfl⟩
  rw [← hW] at HB X1 R1 X2 R2 X3 R3 X4 R4
  try rw [← hW]
  clear hW
  have l1 : w1.heap.size < W.heap.size := X1.out.lt
  have l2 : w3.heap.size < W.heap.size := X2.out.lt
  have l3 : w7.heap.size < W.heap.size := X3.out.lt
  have l4 : w8.heap.size < W.heap.size := X4.out.lt
  go_upto_region 14 with fail
  go_cut [125] (fun v wx => Hid (v = .bool false ∧ Below W.heap.size W wx))
  have zq1 : (one != one) = false := by simp
  have zq2 : (F1 != F1) = false := by simp
  have zq3 : (F2 != F2) = false := by simp
  case first =>
    rcases HTB.out with ⟨_, hte, ho⟩ | ⟨_, hte, _, ho, hkb⟩
    · rw [HBK.out] at ho
      have ho : ok = false := ho
      subst ho
      have hiE : t.toList.isEmpty = true := by rw [tl_empty]; exact decide_eq_true hte
      have hS : Hid (∀ w9 : World, Below W.heap.size W w9 → Below W.heap.size W w9 ∧ w9.cell? ⟨w1.heap.size, 0, none⟩ = some (.int .i64 k) ∧ w9.cell? ⟨w1.heap.size, 1, none⟩ = some (.slice s.A p.length s.c) ∧ w9.cell? ⟨w1.heap.size, 2, none⟩ = some (.slice s.A2 m.length s.c2) ∧ w9.cell? ⟨w1.heap.size, 3, none⟩ = some (.slice s.A3 y.length s.c3) ∧ w9.cell? ⟨w1.heap.size, 4, none⟩ = some (.slice s.A4 q1.length s.c4) ∧ w9.cell? ⟨w1.heap.size, 5, none⟩ = some (.slice s.A5 q2.length s.c5) ∧ w9.cell? ⟨w3.heap.size, 0, none⟩ = some (.int .i64 k2) ∧ w9.cell? ⟨w3.heap.size, 1, none⟩ = some (.slice s2.A p2.length s2.c) ∧ w9.cell? ⟨w3.heap.size, 2, none⟩ = some (.slice s2.A2 m2.length s2.c2) ∧ w9.cell? ⟨w3.heap.size, 3, none⟩ = some (.slice s2.A3 y2.length s2.c3) ∧ w9.cell? ⟨w3.heap.size, 4, none⟩ = some (.slice s2.A4 r1.length s2.c4) ∧ w9.cell? ⟨w3.heap.size, 5, none⟩ = some (.slice s2.A5 r2.length s2.c5) ∧ w9.cell? ⟨w7.heap.size, 0, none⟩ = some (.int .i64 k3) ∧ w9.cell? ⟨w7.heap.size, 1, none⟩ = some (.slice s3.A p3.length s3.c) ∧ w9.cell? ⟨w7.heap.size, 2, none⟩ = some (.slice s3.A2 m3.length s3.c2) ∧ w9.cell? ⟨w7.heap.size, 3, none⟩ = some (.slice s3.A3 y3.length s3.c3) ∧ w9.cell? ⟨w7.heap.size, 4, none⟩ = some (.slice s3.A4 a3.length s3.c4) ∧ w9.cell? ⟨w7.heap.size, 5, none⟩ = some (.slice s3.A5 b3.length s3.c5) ∧ w9.cell? ⟨w8.heap.size, 0, none⟩ = some (.int .i64 k3) ∧ w9.cell? ⟨w8.heap.size, 1, none⟩ = some (.slice s4.A p3.length s4.c) ∧ w9.cell? ⟨w8.heap.size, 2, none⟩ = some (.slice s4.A2 m3.length s4.c2) ∧ w9.cell? ⟨w8.heap.size, 3, none⟩ = some (.slice s4.A3 y3.length s4.c3) ∧ w9.cell? ⟨w8.heap.size, 4, none⟩ = some (.slice s4.A4 a3.length s4.c4) ∧ w9.cell? ⟨w8.heap.size, 5, none⟩ = some (.slice s4.A5 b3.length s4.c5)) := by
        refine hid fun w9 b => ?_
        obtain ⟨⟨x10, x11, x12, x13, x14, x15⟩, -⟩ := zc (X1.out.below b X1.out.lt)
        obtain ⟨⟨x20, x21, x22, x23, x24, x25⟩, -⟩ := zc (X2.out.below b X2.out.lt)
        obtain ⟨⟨x30, x31, x32, x33, x34, x35⟩, -⟩ := zc (X3.out.below b X3.out.lt)
        obtain ⟨⟨x40, x41, x42, x43, x44, x45⟩, -⟩ := zc (X4.out.below b X4.out.lt)
        exact ⟨b, x10, x11, x12, x13, x14, x15, x20, x21, x22, x23, x24, x25, x30, x31, x32, x33, x34, x35, x40, x41, x42, x43, x44, x45⟩
      clear l1 l2 l3 l4
      have hT1 : Hid (∀ w9 : World, Below W.heap.size W w9 → Calls Tryz.prog 15 #[.agg #[.int .i64 k, .slice s.A p.length s.c, .slice s.A2 m.length s.c2, .slice s.A3 y.length s.c3, .slice s.A4 q1.length s.c4, .slice s.A5 q2.length s.c5]] w9 fun e w' => e = .returned (.string t) ∧ Below w9.heap.size w9 w') := by
        refine hid fun w9 b => ?_
        have h := specNotationText_any k p m y q1 q2 s w9 SM1.out (R1.out.below b)
        rw [HT.out] at h
        exact h
      have hT2 : Hid (∀ w9 : World, Below W.heap.size W w9 → Calls Tryz.prog 16 #[.string t] w9 fun e w' => e = .returned (.int .i64 (kinR (tl t) : Nat)) ∧ Below w9.heap.size w9 w') := by
        refine hid fun w9 b => ?_
        refine (specKindOfText_any t w9 (by omega)).mono ?_
        rintro e w6 ⟨h1, rfl⟩
        exact ⟨h1, Below.refl _ _⟩
      have hT4 : Hid (∀ w9 : World, Below W.heap.size W w9 → Calls Tryz.prog 17 #[.agg #[.int .i64 k3, .slice s3.A p3.length s3.c, .slice s3.A2 m3.length s3.c2, .slice s3.A3 y3.length s3.c3, .slice s3.A4 a3.length s3.c4, .slice s3.A5 b3.length s3.c5], .agg #[.int .i64 k3, .slice s4.A p3.length s4.c, .slice s4.A2 m3.length s4.c2, .slice s4.A3 y3.length s4.c3, .slice s4.A4 a3.length s4.c4, .slice s4.A5 b3.length s4.c5]] w9 fun e w' => e = .returned (.bool true) ∧ Below w9.heap.size w9 w') := by
        refine hid fun w9 b => ?_
        have h := SameNotation_same k3 p3 m3 y3 a3 b3 s3 s4 w9 SM3.out (R3.out.below b) (R4.out.below b)
        exact h
      have hT5 : Hid (∀ w9 : World, Below W.heap.size W w9 → Calls Tryz.prog 18 #[.int .i64 kk] w9 fun e w' => e = .returned (.string (rNoteName kk)) ∧ Below w9.heap.size w9 w') := by
        refine hid fun w9 b => ?_
        have h := NoteName_any kk w9
        exact h
      have hT6 : Hid (∀ w9 : World, Below W.heap.size W w9 → Calls Tryz.prog 19 #[.int .i64 kk] w9 fun e w' => e = .returned (.string (rNoteName kk)) ∧ Below w9.heap.size w9 w') := by
        refine hid fun w9 b => ?_
        have h := specNoteName_any kk w9
        exact h
      have hT7 : Hid (∀ w9 : World, Below W.heap.size W w9 → Calls Tryz.prog 20 #[.int .i64 ff] w9 fun e w' => e = .returned (.string (rFaultName ff)) ∧ Below w9.heap.size w9 w') := by
        refine hid fun w9 b => ?_
        have h := FaultName_any ff w9
        exact h
      have hT8 : Hid (∀ w9 : World, Below W.heap.size W w9 → Calls Tryz.prog 21 #[.int .i64 ff] w9 fun e w' => e = .returned (.string (rFaultName ff)) ∧ Below w9.heap.size w9 w') := by
        refine hid fun w9 b => ?_
        have h := specFaultName_any ff w9
        exact h
      have hT9 : Hid (∀ w9 : World, Below W.heap.size W w9 → Calls Tryz.prog 22 #[.string U] w9 fun e w' => e = .returned (.int .i64 (kinR (tl U) : Nat)) ∧ Below w9.heap.size w9 w') := by
        refine hid fun w9 b => ?_
        refine (KindOfText_any U w9 (by omega)).mono ?_
        rintro e w6 ⟨h1, rfl⟩
        exact ⟨h1, Below.refl _ _⟩
      have hT10 : Hid (∀ w9 : World, Below W.heap.size W w9 → Calls Tryz.prog 16 #[.string U] w9 fun e w' => e = .returned (.int .i64 (kinR (tl U) : Nat)) ∧ Below w9.heap.size w9 w') := by
        refine hid fun w9 b => ?_
        refine (specKindOfText_any U w9 (by omega)).mono ?_
        rintro e w6 ⟨h1, rfl⟩
        exact ⟨h1, Below.refl _ _⟩
      have hBd : Below W.heap.size W W.drew := (Below.refl _ _).drew
      clear X1 R1 X2 R2 X3 R3 X4 R4
      refine wp_region_noPanic ?_
      simp only [List.append_eq, List.cons_append, List.nil_append]
      refine wp_region_held_drew (S := fun w' => Below W.heap.size W w' ∧ w'.cell? ⟨w1.heap.size, 0, none⟩ = some (.int .i64 k) ∧ w'.cell? ⟨w1.heap.size, 1, none⟩ = some (.slice s.A p.length s.c) ∧ w'.cell? ⟨w1.heap.size, 2, none⟩ = some (.slice s.A2 m.length s.c2) ∧ w'.cell? ⟨w1.heap.size, 3, none⟩ = some (.slice s.A3 y.length s.c3) ∧ w'.cell? ⟨w1.heap.size, 4, none⟩ = some (.slice s.A4 q1.length s.c4) ∧ w'.cell? ⟨w1.heap.size, 5, none⟩ = some (.slice s.A5 q2.length s.c5) ∧ w'.cell? ⟨w3.heap.size, 0, none⟩ = some (.int .i64 k2) ∧ w'.cell? ⟨w3.heap.size, 1, none⟩ = some (.slice s2.A p2.length s2.c) ∧ w'.cell? ⟨w3.heap.size, 2, none⟩ = some (.slice s2.A2 m2.length s2.c2) ∧ w'.cell? ⟨w3.heap.size, 3, none⟩ = some (.slice s2.A3 y2.length s2.c3) ∧ w'.cell? ⟨w3.heap.size, 4, none⟩ = some (.slice s2.A4 r1.length s2.c4) ∧ w'.cell? ⟨w3.heap.size, 5, none⟩ = some (.slice s2.A5 r2.length s2.c5) ∧ w'.cell? ⟨w7.heap.size, 0, none⟩ = some (.int .i64 k3) ∧ w'.cell? ⟨w7.heap.size, 1, none⟩ = some (.slice s3.A p3.length s3.c) ∧ w'.cell? ⟨w7.heap.size, 2, none⟩ = some (.slice s3.A2 m3.length s3.c2) ∧ w'.cell? ⟨w7.heap.size, 3, none⟩ = some (.slice s3.A3 y3.length s3.c3) ∧ w'.cell? ⟨w7.heap.size, 4, none⟩ = some (.slice s3.A4 a3.length s3.c4) ∧ w'.cell? ⟨w7.heap.size, 5, none⟩ = some (.slice s3.A5 b3.length s3.c5) ∧ w'.cell? ⟨w8.heap.size, 0, none⟩ = some (.int .i64 k3) ∧ w'.cell? ⟨w8.heap.size, 1, none⟩ = some (.slice s4.A p3.length s4.c) ∧ w'.cell? ⟨w8.heap.size, 2, none⟩ = some (.slice s4.A2 m3.length s4.c2) ∧ w'.cell? ⟨w8.heap.size, 3, none⟩ = some (.slice s4.A3 y3.length s4.c3) ∧ w'.cell? ⟨w8.heap.size, 4, none⟩ = some (.slice s4.A4 a3.length s4.c4) ∧ w'.cell? ⟨w8.heap.size, 5, none⟩ = some (.slice s4.A5 b3.length s4.c5)) (by kernel_rfl) ?_ (fun hHeld => ?_)
      · with_reducible exact hS.out _ hBd
      refine wpAnyH_take (i := 0) (v := ?_) (arr_get at_zero) (by kernel_rfl) (by kernel_rfl) (by kernel_rfl) (fun _ _ _ h => h) (Or.inl ⟨by rfl, ?_⟩) (by assumption) ?_
      rotate_left
      · intro w9 hSw
        try dsimp only at hSw
        go_simp
        all_goals with_reducible rfl
      try simp only [Act.put]
      try simp only [List.setIfInBounds_toArray]
      try simp only [List.set_cons_succ]
      try simp only [List.set_cons_zero]
      refine wpAnyH_take (i := 1) (v := ?_) (arr_get (at_succ at_zero)) (by kernel_rfl) (by kernel_rfl) (by kernel_rfl) (fun _ _ _ h => h) (Or.inl ⟨by rfl, ?_⟩) (by assumption) ?_
      rotate_left
      · intro w9 hSw
        try dsimp only at hSw
        go_simp
        all_goals with_reducible rfl
      try simp only [Act.put]
      try simp only [List.setIfInBounds_toArray]
      try simp only [List.set_cons_succ]
      try simp only [List.set_cons_zero]
      refine wpAnyH_ready (rs := [2]) (by kernel_rfl) (by simp) ?_
      refine AllReadyH.cons (arr_get (at_succ (at_succ at_zero))) (fun K hK => ?_) AllReadyH.nil
      go_simp
      go_at_call 15
      with_reducible refine (hT1.out _ (by assumption)).mono ?_
      rintro e w5 ⟨rfl, hb5⟩
      have hB5 := bchain (show Below W.heap.size W _ by assumption) hb5
      try go_wp2_with fail
      refine hK.out _ _ (by (try dsimp only); with_reducible exact hS.out _ hB5) (fun hHeld => ?_)
      clear hK K
      try simp only [Act.put]
      try simp only [List.setIfInBounds_toArray]
      try simp only [List.set_cons_succ]
      try simp only [List.set_cons_zero]
      refine wpAnyH_take (i := 3) (v := ?_) (arr_get (at_succ (at_succ (at_succ at_zero)))) (by kernel_rfl) (by kernel_rfl) (by kernel_rfl) (fun _ _ _ h => h) (Or.inl ⟨by rfl, ?_⟩) (by assumption) ?_
      rotate_left
      · intro w9 hSw
        try dsimp only at hSw
        go_simp
        all_goals with_reducible rfl
      try simp only [Act.put]
      try simp only [List.setIfInBounds_toArray]
      try simp only [List.set_cons_succ]
      try simp only [List.set_cons_zero]
      refine wpAnyH_take (i := 4) (v := ?_) (arr_get (at_succ (at_succ (at_succ (at_succ at_zero))))) (by kernel_rfl) (by kernel_rfl) (by kernel_rfl) (fun _ _ _ h => h) (Or.inl ⟨by rfl, ?_⟩) (by assumption) ?_
      rotate_left
      · intro w9 hSw
        try dsimp only at hSw
        go_simp
        all_goals with_reducible rfl
      try simp only [Act.put]
      try simp only [List.setIfInBounds_toArray]
      try simp only [List.set_cons_succ]
      try simp only [List.set_cons_zero]
      refine wpAnyH_take (i := 5) (v := ?_) (arr_get (at_succ (at_succ (at_succ (at_succ (at_succ at_zero)))))) (by kernel_rfl) (by kernel_rfl) (by kernel_rfl) (fun _ _ _ h => h) (Or.inl ⟨by rfl, ?_⟩) (by assumption) ?_
      rotate_left
      · intro w9 hSw
        try dsimp only at hSw
        go_simp
        all_goals with_reducible rfl
      try simp only [Act.put]
      try simp only [List.setIfInBounds_toArray]
      try simp only [List.set_cons_succ]
      try simp only [List.set_cons_zero]
      refine wpAnyH_take (i := 6) (v := ?_) (arr_get (at_succ (at_succ (at_succ (at_succ (at_succ (at_succ at_zero))))))) (by kernel_rfl) (by kernel_rfl) (by kernel_rfl) (fun _ _ _ h => h) (Or.inl ⟨by rfl, ?_⟩) (by assumption) ?_
      rotate_left
      · intro w9 hSw
        try dsimp only at hSw
        go_simp
        all_goals with_reducible rfl
      try simp only [Act.put]
      try simp only [List.setIfInBounds_toArray]
      try simp only [List.set_cons_succ]
      try simp only [List.set_cons_zero]
      refine wpAnyH_take (i := 7) (v := ?_) (arr_get (at_succ (at_succ (at_succ (at_succ (at_succ (at_succ (at_succ at_zero)))))))) (by kernel_rfl) (by kernel_rfl) (by kernel_rfl) (fun _ _ _ h => h) (Or.inl ⟨by rfl, ?_⟩) (by assumption) ?_
      rotate_left
      · intro w9 hSw
        try dsimp only at hSw
        go_simp
        all_goals with_reducible rfl
      try simp only [Act.put]
      try simp only [List.setIfInBounds_toArray]
      try simp only [List.set_cons_succ]
      try simp only [List.set_cons_zero]
      refine wpAnyH_take (i := 8) (v := ?_) (arr_get (at8 at_zero)) (by kernel_rfl) (by kernel_rfl) (by kernel_rfl) (fun _ _ _ h => h) (Or.inl ⟨by rfl, ?_⟩) (by assumption) ?_
      rotate_left
      · intro w9 hSw
        try dsimp only at hSw
        go_simp
        all_goals with_reducible rfl
      try simp only [Act.put]
      try simp only [List.setIfInBounds_toArray]
      try simp only [List.set_cons_succ]
      try simp only [List.set_cons_zero]
      refine wpAnyH_take (i := 9) (v := ?_) (arr_get (at8 (at_succ at_zero))) (by kernel_rfl) (by kernel_rfl) (by kernel_rfl) (fun _ _ _ h => h) (Or.inl ⟨by rfl, ?_⟩) (by assumption) ?_
      rotate_left
      · intro w9 hSw
        try dsimp only at hSw
        go_simp
        all_goals with_reducible rfl
      try simp only [Act.put]
      try simp only [List.setIfInBounds_toArray]
      try simp only [List.set_cons_succ]
      try simp only [List.set_cons_zero]
      refine wpAnyH_take (i := 10) (v := ?_) (arr_get (at8 (at_succ (at_succ at_zero)))) (by kernel_rfl) (by kernel_rfl) (by kernel_rfl) (fun _ _ _ h => h) (Or.inl ⟨by rfl, ?_⟩) (by assumption) ?_
      rotate_left
      · intro w9 hSw
        try dsimp only at hSw
        go_simp
        all_goals with_reducible rfl
      try simp only [Act.put]
      try simp only [List.setIfInBounds_toArray]
      try simp only [List.set_cons_succ]
      try simp only [List.set_cons_zero]
      refine wpAnyH_take (i := 11) (v := ?_) (arr_get (at8 (at_succ (at_succ (at_succ at_zero))))) (by kernel_rfl) (by kernel_rfl) (by kernel_rfl) (fun _ _ _ h => h) (Or.inl ⟨by rfl, ?_⟩) (by assumption) ?_
      rotate_left
      · intro w9 hSw
        try dsimp only at hSw
        go_simp
        all_goals with_reducible rfl
      try simp only [Act.put]
      try simp only [List.setIfInBounds_toArray]
      try simp only [List.set_cons_succ]
      try simp only [List.set_cons_zero]
      refine wpAnyH_take (i := 12) (v := ?_) (arr_get (at8 (at_succ (at_succ (at_succ (at_succ at_zero)))))) (by kernel_rfl) (by kernel_rfl) (by kernel_rfl) (fun _ _ _ h => h) (Or.inl ⟨by rfl, ?_⟩) (by assumption) ?_
      rotate_left
      · intro w9 hSw
        try dsimp only at hSw
        go_simp
        all_goals with_reducible rfl
      try simp only [Act.put]
      try simp only [List.setIfInBounds_toArray]
      try simp only [List.set_cons_succ]
      try simp only [List.set_cons_zero]
      refine wpAnyH_take (i := 13) (v := undef) (arr_get (at8 (at_succ (at_succ (at_succ (at_succ (at_succ at_zero))))))) (by kernel_rfl) (by kernel_rfl) (by kernel_rfl) (fun _ _ _ h => h) (Or.inr ⟨by rfl, rfl⟩) (by assumption) ?_
      try simp only [Act.put]
      try simp only [List.setIfInBounds_toArray]
      try simp only [List.set_cons_succ]
      try simp only [List.set_cons_zero]
      refine wpAnyH_take (i := 15) (v := undef) (arr_get (at8 (at_succ (at_succ (at_succ (at_succ (at_succ (at_succ (at_succ at_zero))))))))) (by kernel_rfl) (by kernel_rfl) (by kernel_rfl) (fun _ _ _ h => h) (Or.inr ⟨by rfl, rfl⟩) (by assumption) ?_
      try simp only [Act.put]
      try simp only [List.setIfInBounds_toArray]
      try simp only [List.set_cons_succ]
      try simp only [List.set_cons_zero]
      refine wpAnyH_take (i := 16) (v := undef) (arr_get (at8 (at8 at_zero))) (by kernel_rfl) (by kernel_rfl) (by kernel_rfl) (fun _ _ _ h => h) (Or.inr ⟨by rfl, rfl⟩) (by assumption) ?_
      try simp only [Act.put]
      try simp only [List.setIfInBounds_toArray]
      try simp only [List.set_cons_succ]
      try simp only [List.set_cons_zero]
      refine wpAnyH_ready (rs := [14]) (by kernel_rfl) (by simp) ?_
      refine AllReadyH.cons (arr_get (at8 (at_succ (at_succ (at_succ (at_succ (at_succ (at_succ at_zero)))))))) (fun K hK => ?_) AllReadyH.nil
      go_simp
      refine hK.out _ _ (by (try dsimp only); assumption) (fun hHeld => ?_)
      clear hK K
      try simp only [Act.put]
      try simp only [List.setIfInBounds_toArray]
      try simp only [List.set_cons_succ]
      try simp only [List.set_cons_zero]
      refine wpAnyH_take (i := 17) (v := undef) (arr_get (at8 (at8 (at_succ at_zero)))) (by kernel_rfl) (by kernel_rfl) (by kernel_rfl) (fun _ _ _ h => h) (Or.inr ⟨by rfl, rfl⟩) (by assumption) ?_
      try simp only [Act.put]
      try simp only [List.setIfInBounds_toArray]
      try simp only [List.set_cons_succ]
      try simp only [List.set_cons_zero]
      refine wpAnyH_take (i := 18) (v := ?_) (arr_get (at8 (at8 (at_succ (at_succ at_zero))))) (by kernel_rfl) (by kernel_rfl) (by kernel_rfl) (fun _ _ _ h => h) (Or.inl ⟨by rfl, ?_⟩) (by assumption) ?_
      rotate_left
      · intro w9 hSw
        try dsimp only at hSw
        go_simp
        all_goals with_reducible rfl
      try simp only [Act.put]
      try simp only [List.setIfInBounds_toArray]
      try simp only [List.set_cons_succ]
      try simp only [List.set_cons_zero]
      refine wpAnyH_take (i := 19) (v := ?_) (arr_get (at8 (at8 (at_succ (at_succ (at_succ at_zero)))))) (by kernel_rfl) (by kernel_rfl) (by kernel_rfl) (fun _ _ _ h => h) (Or.inl ⟨by rfl, ?_⟩) (by assumption) ?_
      rotate_left
      · intro w9 hSw
        try dsimp only at hSw
        go_simp
        all_goals with_reducible rfl
      try simp only [Act.put]
      try simp only [List.setIfInBounds_toArray]
      try simp only [List.set_cons_succ]
      try simp only [List.set_cons_zero]
      refine wpAnyH_take (i := 20) (v := undef) (arr_get (at8 (at8 (at_succ (at_succ (at_succ (at_succ at_zero))))))) (by kernel_rfl) (by kernel_rfl) (by kernel_rfl) (fun _ _ _ h => h) (Or.inr ⟨by rfl, rfl⟩) (by assumption) ?_
      try simp only [Act.put]
      try simp only [List.setIfInBounds_toArray]
      try simp only [List.set_cons_succ]
      try simp only [List.set_cons_zero]
      refine wpAnyH_take (i := 21) (v := undef) (arr_get (at8 (at8 (at_succ (at_succ (at_succ (at_succ (at_succ at_zero)))))))) (by kernel_rfl) (by kernel_rfl) (by kernel_rfl) (fun _ _ _ h => h) (Or.inr ⟨by rfl, rfl⟩) (by assumption) ?_
      try simp only [Act.put]
      try simp only [List.setIfInBounds_toArray]
      try simp only [List.set_cons_succ]
      try simp only [List.set_cons_zero]
      refine wpAnyH_ready (rs := [22]) (by kernel_rfl) (by simp) ?_
      refine AllReadyH.cons (arr_get (at8 (at8 (at_succ (at_succ (at_succ (at_succ (at_succ (at_succ at_zero))))))))) (fun K hK => ?_) AllReadyH.nil
      go_simp
      refine hK.out _ _ (by (try dsimp only); assumption) (fun hHeld => ?_)
      clear hK K
      try simp only [Act.put]
      try simp only [List.setIfInBounds_toArray]
      try simp only [List.set_cons_succ]
      try simp only [List.set_cons_zero]
      refine wpAnyH_take (i := 23) (v := undef) (arr_get (at8 (at8 (at_succ (at_succ (at_succ (at_succ (at_succ (at_succ (at_succ at_zero)))))))))) (by kernel_rfl) (by kernel_rfl) (by kernel_rfl) (fun _ _ _ h => h) (Or.inr ⟨by rfl, rfl⟩) (by assumption) ?_
      try simp only [Act.put]
      try simp only [List.setIfInBounds_toArray]
      try simp only [List.set_cons_succ]
      try simp only [List.set_cons_zero]
      refine wpAnyH_take (i := 24) (v := ?_) (arr_get (at8 (at8 (at8 at_zero)))) (by kernel_rfl) (by kernel_rfl) (by kernel_rfl) (fun _ _ _ h => h) (Or.inl ⟨by rfl, ?_⟩) (by assumption) ?_
      rotate_left
      · intro w9 hSw
        try dsimp only at hSw
        go_simp
        all_goals with_reducible rfl
      try simp only [Act.put]
      try simp only [List.setIfInBounds_toArray]
      try simp only [List.set_cons_succ]
      try simp only [List.set_cons_zero]
      refine wpAnyH_take (i := 25) (v := ?_) (arr_get (at8 (at8 (at8 (at_succ at_zero))))) (by kernel_rfl) (by kernel_rfl) (by kernel_rfl) (fun _ _ _ h => h) (Or.inl ⟨by rfl, ?_⟩) (by assumption) ?_
      rotate_left
      · intro w9 hSw
        try dsimp only at hSw
        go_simp
        all_goals with_reducible rfl
      try simp only [Act.put]
      try simp only [List.setIfInBounds_toArray]
      try simp only [List.set_cons_succ]
      try simp only [List.set_cons_zero]
      refine wpAnyH_take (i := 26) (v := ?_) (arr_get (at8 (at8 (at8 (at_succ (at_succ at_zero)))))) (by kernel_rfl) (by kernel_rfl) (by kernel_rfl) (fun _ _ _ h => h) (Or.inl ⟨by rfl, ?_⟩) (by assumption) ?_
      rotate_left
      · intro w9 hSw
        try dsimp only at hSw
        go_simp
        all_goals with_reducible rfl
      try simp only [Act.put]
      try simp only [List.setIfInBounds_toArray]
      try simp only [List.set_cons_succ]
      try simp only [List.set_cons_zero]
      refine wpAnyH_take (i := 27) (v := ?_) (arr_get (at8 (at8 (at8 (at_succ (at_succ (at_succ at_zero))))))) (by kernel_rfl) (by kernel_rfl) (by kernel_rfl) (fun _ _ _ h => h) (Or.inl ⟨by rfl, ?_⟩) (by assumption) ?_
      rotate_left
      · intro w9 hSw
        try dsimp only at hSw
        go_simp
        all_goals with_reducible rfl
      try simp only [Act.put]
      try simp only [List.setIfInBounds_toArray]
      try simp only [List.set_cons_succ]
      try simp only [List.set_cons_zero]
      refine wpAnyH_take (i := 28) (v := ?_) (arr_get (at8 (at8 (at8 (at_succ (at_succ (at_succ (at_succ at_zero)))))))) (by kernel_rfl) (by kernel_rfl) (by kernel_rfl) (fun _ _ _ h => h) (Or.inl ⟨by rfl, ?_⟩) (by assumption) ?_
      rotate_left
      · intro w9 hSw
        try dsimp only at hSw
        go_simp
        all_goals with_reducible rfl
      try simp only [Act.put]
      try simp only [List.setIfInBounds_toArray]
      try simp only [List.set_cons_succ]
      try simp only [List.set_cons_zero]
      refine wpAnyH_take (i := 29) (v := ?_) (arr_get (at8 (at8 (at8 (at_succ (at_succ (at_succ (at_succ (at_succ at_zero))))))))) (by kernel_rfl) (by kernel_rfl) (by kernel_rfl) (fun _ _ _ h => h) (Or.inl ⟨by rfl, ?_⟩) (by assumption) ?_
      rotate_left
      · intro w9 hSw
        try dsimp only at hSw
        go_simp
        all_goals with_reducible rfl
      try simp only [Act.put]
      try simp only [List.setIfInBounds_toArray]
      try simp only [List.set_cons_succ]
      try simp only [List.set_cons_zero]
      refine wpAnyH_take (i := 30) (v := ?_) (arr_get (at8 (at8 (at8 (at_succ (at_succ (at_succ (at_succ (at_succ (at_succ at_zero)))))))))) (by kernel_rfl) (by kernel_rfl) (by kernel_rfl) (fun _ _ _ h => h) (Or.inl ⟨by rfl, ?_⟩) (by assumption) ?_
      rotate_left
      · intro w9 hSw
        try dsimp only at hSw
        go_simp
        all_goals with_reducible rfl
      try simp only [Act.put]
      try simp only [List.setIfInBounds_toArray]
      try simp only [List.set_cons_succ]
      try simp only [List.set_cons_zero]
      refine wpAnyH_take (i := 31) (v := ?_) (arr_get (at8 (at8 (at8 (at_succ (at_succ (at_succ (at_succ (at_succ (at_succ (at_succ at_zero))))))))))) (by kernel_rfl) (by kernel_rfl) (by kernel_rfl) (fun _ _ _ h => h) (Or.inl ⟨by rfl, ?_⟩) (by assumption) ?_
      rotate_left
      · intro w9 hSw
        try dsimp only at hSw
        go_simp
        all_goals with_reducible rfl
      try simp only [Act.put]
      try simp only [List.setIfInBounds_toArray]
      try simp only [List.set_cons_succ]
      try simp only [List.set_cons_zero]
      refine wpAnyH_take (i := 32) (v := ?_) (arr_get (at8 (at8 (at8 (at8 at_zero))))) (by kernel_rfl) (by kernel_rfl) (by kernel_rfl) (fun _ _ _ h => h) (Or.inl ⟨by rfl, ?_⟩) (by assumption) ?_
      rotate_left
      · intro w9 hSw
        try dsimp only at hSw
        go_simp
        all_goals with_reducible rfl
      try simp only [Act.put]
      try simp only [List.setIfInBounds_toArray]
      try simp only [List.set_cons_succ]
      try simp only [List.set_cons_zero]
      refine wpAnyH_take (i := 33) (v := ?_) (arr_get (at8 (at8 (at8 (at8 (at_succ at_zero)))))) (by kernel_rfl) (by kernel_rfl) (by kernel_rfl) (fun _ _ _ h => h) (Or.inl ⟨by rfl, ?_⟩) (by assumption) ?_
      rotate_left
      · intro w9 hSw
        try dsimp only at hSw
        go_simp
        all_goals with_reducible rfl
      try simp only [Act.put]
      try simp only [List.setIfInBounds_toArray]
      try simp only [List.set_cons_succ]
      try simp only [List.set_cons_zero]
      refine wpAnyH_take (i := 34) (v := ?_) (arr_get (at8 (at8 (at8 (at8 (at_succ (at_succ at_zero))))))) (by kernel_rfl) (by kernel_rfl) (by kernel_rfl) (fun _ _ _ h => h) (Or.inl ⟨by rfl, ?_⟩) (by assumption) ?_
      rotate_left
      · intro w9 hSw
        try dsimp only at hSw
        go_simp
        all_goals with_reducible rfl
      try simp only [Act.put]
      try simp only [List.setIfInBounds_toArray]
      try simp only [List.set_cons_succ]
      try simp only [List.set_cons_zero]
      refine wpAnyH_take (i := 35) (v := ?_) (arr_get (at8 (at8 (at8 (at8 (at_succ (at_succ (at_succ at_zero)))))))) (by kernel_rfl) (by kernel_rfl) (by kernel_rfl) (fun _ _ _ h => h) (Or.inl ⟨by rfl, ?_⟩) (by assumption) ?_
      rotate_left
      · intro w9 hSw
        try dsimp only at hSw
        go_simp
        all_goals with_reducible rfl
      try simp only [Act.put]
      try simp only [List.setIfInBounds_toArray]
      try simp only [List.set_cons_succ]
      try simp only [List.set_cons_zero]
      refine wpAnyH_take (i := 36) (v := ?_) (arr_get (at8 (at8 (at8 (at8 (at_succ (at_succ (at_succ (at_succ at_zero))))))))) (by kernel_rfl) (by kernel_rfl) (by kernel_rfl) (fun _ _ _ h => h) (Or.inl ⟨by rfl, ?_⟩) (by assumption) ?_
      rotate_left
      · intro w9 hSw
        try dsimp only at hSw
        go_simp
        all_goals with_reducible rfl
      try simp only [Act.put]
      try simp only [List.setIfInBounds_toArray]
      try simp only [List.set_cons_succ]
      try simp only [List.set_cons_zero]
      refine wpAnyH_take (i := 37) (v := ?_) (arr_get (at8 (at8 (at8 (at8 (at_succ (at_succ (at_succ (at_succ (at_succ at_zero)))))))))) (by kernel_rfl) (by kernel_rfl) (by kernel_rfl) (fun _ _ _ h => h) (Or.inl ⟨by rfl, ?_⟩) (by assumption) ?_
      rotate_left
      · intro w9 hSw
        try dsimp only at hSw
        go_simp
        all_goals with_reducible rfl
      try simp only [Act.put]
      try simp only [List.setIfInBounds_toArray]
      try simp only [List.set_cons_succ]
      try simp only [List.set_cons_zero]
      refine wpAnyH_take (i := 38) (v := ?_) (arr_get (at8 (at8 (at8 (at8 (at_succ (at_succ (at_succ (at_succ (at_succ (at_succ at_zero))))))))))) (by kernel_rfl) (by kernel_rfl) (by kernel_rfl) (fun _ _ _ h => h) (Or.inl ⟨by rfl, ?_⟩) (by assumption) ?_
      rotate_left
      · intro w9 hSw
        try dsimp only at hSw
        go_simp
        all_goals with_reducible rfl
      try simp only [Act.put]
      try simp only [List.setIfInBounds_toArray]
      try simp only [List.set_cons_succ]
      try simp only [List.set_cons_zero]
      refine wpAnyH_take (i := 39) (v := ?_) (arr_get (at8 (at8 (at8 (at8 (at_succ (at_succ (at_succ (at_succ (at_succ (at_succ (at_succ at_zero)))))))))))) (by kernel_rfl) (by kernel_rfl) (by kernel_rfl) (fun _ _ _ h => h) (Or.inl ⟨by rfl, ?_⟩) (by assumption) ?_
      rotate_left
      · intro w9 hSw
        try dsimp only at hSw
        go_simp
        all_goals with_reducible rfl
      try simp only [Act.put]
      try simp only [List.setIfInBounds_toArray]
      try simp only [List.set_cons_succ]
      try simp only [List.set_cons_zero]
      refine wpAnyH_take (i := 40) (v := ?_) (arr_get (at8 (at8 (at8 (at8 (at8 at_zero)))))) (by kernel_rfl) (by kernel_rfl) (by kernel_rfl) (fun _ _ _ h => h) (Or.inl ⟨by rfl, ?_⟩) (by assumption) ?_
      rotate_left
      · intro w9 hSw
        try dsimp only at hSw
        go_simp
        all_goals with_reducible rfl
      try simp only [Act.put]
      try simp only [List.setIfInBounds_toArray]
      try simp only [List.set_cons_succ]
      try simp only [List.set_cons_zero]
      refine wpAnyH_take (i := 41) (v := ?_) (arr_get (at8 (at8 (at8 (at8 (at8 (at_succ at_zero))))))) (by kernel_rfl) (by kernel_rfl) (by kernel_rfl) (fun _ _ _ h => h) (Or.inl ⟨by rfl, ?_⟩) (by assumption) ?_
      rotate_left
      · intro w9 hSw
        try dsimp only at hSw
        go_simp
        all_goals with_reducible rfl
      try simp only [Act.put]
      try simp only [List.setIfInBounds_toArray]
      try simp only [List.set_cons_succ]
      try simp only [List.set_cons_zero]
      refine wpAnyH_take (i := 42) (v := ?_) (arr_get (at8 (at8 (at8 (at8 (at8 (at_succ (at_succ at_zero)))))))) (by kernel_rfl) (by kernel_rfl) (by kernel_rfl) (fun _ _ _ h => h) (Or.inl ⟨by rfl, ?_⟩) (by assumption) ?_
      rotate_left
      · intro w9 hSw
        try dsimp only at hSw
        go_simp
        all_goals with_reducible rfl
      try simp only [Act.put]
      try simp only [List.setIfInBounds_toArray]
      try simp only [List.set_cons_succ]
      try simp only [List.set_cons_zero]
      refine wpAnyH_take (i := 43) (v := ?_) (arr_get (at8 (at8 (at8 (at8 (at8 (at_succ (at_succ (at_succ at_zero))))))))) (by kernel_rfl) (by kernel_rfl) (by kernel_rfl) (fun _ _ _ h => h) (Or.inl ⟨by rfl, ?_⟩) (by assumption) ?_
      rotate_left
      · intro w9 hSw
        try dsimp only at hSw
        go_simp
        all_goals with_reducible rfl
      try simp only [Act.put]
      try simp only [List.setIfInBounds_toArray]
      try simp only [List.set_cons_succ]
      try simp only [List.set_cons_zero]
      refine wpAnyH_ready (rs := [44]) (by kernel_rfl) (by simp) ?_
      refine AllReadyH.cons (arr_get (at8 (at8 (at8 (at8 (at8 (at_succ (at_succ (at_succ (at_succ at_zero)))))))))) (fun K hK => ?_) AllReadyH.nil
      go_simp
      go_at_call 17
      with_reducible refine (hT4.out _ (by assumption)).mono ?_
      rintro e w5 ⟨rfl, hb5⟩
      have hB5 := bchain (show Below W.heap.size W _ by assumption) hb5
      try go_wp2_with fail
      refine hK.out _ _ (by (try dsimp only); with_reducible exact hS.out _ hB5) (fun hHeld => ?_)
      clear hK K
      try simp only [Act.put]
      try simp only [List.setIfInBounds_toArray]
      try simp only [List.set_cons_succ]
      try simp only [List.set_cons_zero]
      refine wpAnyH_take (i := 45) (v := ?_) (arr_get (at8 (at8 (at8 (at8 (at8 (at_succ (at_succ (at_succ (at_succ (at_succ at_zero))))))))))) (by kernel_rfl) (by kernel_rfl) (by kernel_rfl) (fun _ _ _ h => h) (Or.inl ⟨by rfl, ?_⟩) (by assumption) ?_
      rotate_left
      · intro w9 hSw
        try dsimp only at hSw
        go_simp
        all_goals with_reducible rfl
      try simp only [Act.put]
      try simp only [List.setIfInBounds_toArray]
      try simp only [List.set_cons_succ]
      try simp only [List.set_cons_zero]
      refine wpAnyH_take (i := 46) (v := ?_) (arr_get (at8 (at8 (at8 (at8 (at8 (at_succ (at_succ (at_succ (at_succ (at_succ (at_succ at_zero)))))))))))) (by kernel_rfl) (by kernel_rfl) (by kernel_rfl) (fun _ _ _ h => h) (Or.inl ⟨by rfl, ?_⟩) (by assumption) ?_
      rotate_left
      · intro w9 hSw
        try dsimp only at hSw
        go_simp
        all_goals with_reducible rfl
      try simp only [Act.put]
      try simp only [List.setIfInBounds_toArray]
      try simp only [List.set_cons_succ]
      try simp only [List.set_cons_zero]
      refine wpAnyH_take (i := 47) (v := ?_) (arr_get (at8 (at8 (at8 (at8 (at8 (at_succ (at_succ (at_succ (at_succ (at_succ (at_succ (at_succ at_zero))))))))))))) (by kernel_rfl) (by kernel_rfl) (by kernel_rfl) (fun _ _ _ h => h) (Or.inl ⟨by rfl, ?_⟩) (by assumption) ?_
      rotate_left
      · intro w9 hSw
        try dsimp only at hSw
        go_simp
        all_goals with_reducible rfl
      try simp only [Act.put]
      try simp only [List.setIfInBounds_toArray]
      try simp only [List.set_cons_succ]
      try simp only [List.set_cons_zero]
      refine wpAnyH_take (i := 48) (v := ?_) (arr_get (at8 (at8 (at8 (at8 (at8 (at8 at_zero))))))) (by kernel_rfl) (by kernel_rfl) (by kernel_rfl) (fun _ _ _ h => h) (Or.inl ⟨by rfl, ?_⟩) (by assumption) ?_
      rotate_left
      · intro w9 hSw
        try dsimp only at hSw
        go_simp
        all_goals with_reducible rfl
      try simp only [Act.put]
      try simp only [List.setIfInBounds_toArray]
      try simp only [List.set_cons_succ]
      try simp only [List.set_cons_zero]
      refine wpAnyH_take (i := 50) (v := ?_) (arr_get (at8 (at8 (at8 (at8 (at8 (at8 (at_succ (at_succ at_zero))))))))) (by kernel_rfl) (by kernel_rfl) (by kernel_rfl) (fun _ _ _ h => h) (Or.inl ⟨by rfl, ?_⟩) (by assumption) ?_
      rotate_left
      · intro w9 hSw
        try dsimp only at hSw
        go_simp
        all_goals with_reducible rfl
      try simp only [Act.put]
      try simp only [List.setIfInBounds_toArray]
      try simp only [List.set_cons_succ]
      try simp only [List.set_cons_zero]
      refine wpAnyH_ready (rs := [49]) (by kernel_rfl) (by simp) ?_
      refine AllReadyH.cons (arr_get (at8 (at8 (at8 (at8 (at8 (at8 (at_succ at_zero)))))))) (fun K hK => ?_) AllReadyH.nil
      go_simp
      go_at_call 18
      with_reducible refine (hT5.out _ (by assumption)).mono ?_
      rintro e w5 ⟨rfl, hb5⟩
      have hB5 := bchain (show Below W.heap.size W _ by assumption) hb5
      try go_wp2_with fail
      refine hK.out _ _ (by (try dsimp only); with_reducible exact hS.out _ hB5) (fun hHeld => ?_)
      clear hK K
      try simp only [Act.put]
      try simp only [List.setIfInBounds_toArray]
      try simp only [List.set_cons_succ]
      try simp only [List.set_cons_zero]
      refine wpAnyH_ready (rs := [51]) (by kernel_rfl) (by simp) ?_
      refine AllReadyH.cons (arr_get (at8 (at8 (at8 (at8 (at8 (at8 (at_succ (at_succ (at_succ at_zero)))))))))) (fun K hK => ?_) AllReadyH.nil
      go_simp
      go_at_call 19
      with_reducible refine (hT6.out _ (by assumption)).mono ?_
      rintro e w5 ⟨rfl, hb5⟩
      have hB5 := bchain (show Below W.heap.size W _ by assumption) hb5
      try go_wp2_with fail
      refine hK.out _ _ (by (try dsimp only); with_reducible exact hS.out _ hB5) (fun hHeld => ?_)
      clear hK K
      try simp only [Act.put]
      try simp only [List.setIfInBounds_toArray]
      try simp only [List.set_cons_succ]
      try simp only [List.set_cons_zero]
      refine wpAnyH_take (i := 52) (v := ?_) (arr_get (at8 (at8 (at8 (at8 (at8 (at8 (at_succ (at_succ (at_succ (at_succ at_zero))))))))))) (by kernel_rfl) (by kernel_rfl) (by kernel_rfl) (fun _ _ _ h => h) (Or.inl ⟨by rfl, ?_⟩) (by assumption) ?_
      rotate_left
      · intro w9 hSw
        try dsimp only at hSw
        go_simp
        all_goals with_reducible rfl
      try simp only [Act.put]
      try simp only [List.setIfInBounds_toArray]
      try simp only [List.set_cons_succ]
      try simp only [List.set_cons_zero]
      refine wpAnyH_take (i := 53) (v := ?_) (arr_get (at8 (at8 (at8 (at8 (at8 (at8 (at_succ (at_succ (at_succ (at_succ (at_succ at_zero)))))))))))) (by kernel_rfl) (by kernel_rfl) (by kernel_rfl) (fun _ _ _ h => h) (Or.inl ⟨by rfl, ?_⟩) (by assumption) ?_
      rotate_left
      · intro w9 hSw
        try dsimp only at hSw
        go_simp
        all_goals with_reducible rfl
      try simp only [Act.put]
      try simp only [List.setIfInBounds_toArray]
      try simp only [List.set_cons_succ]
      try simp only [List.set_cons_zero]
      refine wpAnyH_take (i := 54) (v := ?_) (arr_get (at8 (at8 (at8 (at8 (at8 (at8 (at_succ (at_succ (at_succ (at_succ (at_succ (at_succ at_zero))))))))))))) (by kernel_rfl) (by kernel_rfl) (by kernel_rfl) (fun _ _ _ h => h) (Or.inl ⟨by rfl, ?_⟩) (by assumption) ?_
      rotate_left
      · intro w9 hSw
        try dsimp only at hSw
        go_simp
        all_goals with_reducible rfl
      try simp only [Act.put]
      try simp only [List.setIfInBounds_toArray]
      try simp only [List.set_cons_succ]
      try simp only [List.set_cons_zero]
      refine wpAnyH_take (i := 55) (v := ?_) (arr_get (at8 (at8 (at8 (at8 (at8 (at8 (at_succ (at_succ (at_succ (at_succ (at_succ (at_succ (at_succ at_zero)))))))))))))) (by kernel_rfl) (by kernel_rfl) (by kernel_rfl) (fun _ _ _ h => h) (Or.inl ⟨by rfl, ?_⟩) (by assumption) ?_
      rotate_left
      · intro w9 hSw
        try dsimp only at hSw
        go_simp
        all_goals with_reducible rfl
      try simp only [Act.put]
      try simp only [List.setIfInBounds_toArray]
      try simp only [List.set_cons_succ]
      try simp only [List.set_cons_zero]
      refine wpAnyH_take (i := 57) (v := ?_) (arr_get (at8 (at8 (at8 (at8 (at8 (at8 (at8 (at_succ at_zero))))))))) (by kernel_rfl) (by kernel_rfl) (by kernel_rfl) (fun _ _ _ h => h) (Or.inl ⟨by rfl, ?_⟩) (by assumption) ?_
      rotate_left
      · intro w9 hSw
        try dsimp only at hSw
        go_simp
        all_goals with_reducible rfl
      try simp only [Act.put]
      try simp only [List.setIfInBounds_toArray]
      try simp only [List.set_cons_succ]
      try simp only [List.set_cons_zero]
      refine wpAnyH_ready (rs := [56]) (by kernel_rfl) (by simp) ?_
      refine AllReadyH.cons (arr_get (at8 (at8 (at8 (at8 (at8 (at8 (at8 at_zero)))))))) (fun K hK => ?_) AllReadyH.nil
      go_simp
      go_at_call 20
      with_reducible refine (hT7.out _ (by assumption)).mono ?_
      rintro e w5 ⟨rfl, hb5⟩
      have hB5 := bchain (show Below W.heap.size W _ by assumption) hb5
      try go_wp2_with fail
      refine hK.out _ _ (by (try dsimp only); with_reducible exact hS.out _ hB5) (fun hHeld => ?_)
      clear hK K
      try simp only [Act.put]
      try simp only [List.setIfInBounds_toArray]
      try simp only [List.set_cons_succ]
      try simp only [List.set_cons_zero]
      refine wpAnyH_ready (rs := [58]) (by kernel_rfl) (by simp) ?_
      refine AllReadyH.cons (arr_get (at8 (at8 (at8 (at8 (at8 (at8 (at8 (at_succ (at_succ at_zero)))))))))) (fun K hK => ?_) AllReadyH.nil
      go_simp
      go_at_call 21
      with_reducible refine (hT8.out _ (by assumption)).mono ?_
      rintro e w5 ⟨rfl, hb5⟩
      have hB5 := bchain (show Below W.heap.size W _ by assumption) hb5
      try go_wp2_with fail
      refine hK.out _ _ (by (try dsimp only); with_reducible exact hS.out _ hB5) (fun hHeld => ?_)
      clear hK K
      try simp only [Act.put]
      try simp only [List.setIfInBounds_toArray]
      try simp only [List.set_cons_succ]
      try simp only [List.set_cons_zero]
      refine wpAnyH_take (i := 59) (v := ?_) (arr_get (at8 (at8 (at8 (at8 (at8 (at8 (at8 (at_succ (at_succ (at_succ at_zero))))))))))) (by kernel_rfl) (by kernel_rfl) (by kernel_rfl) (fun _ _ _ h => h) (Or.inl ⟨by rfl, ?_⟩) (by assumption) ?_
      rotate_left
      · intro w9 hSw
        try dsimp only at hSw
        go_simp
        all_goals with_reducible rfl
      try simp only [Act.put]
      try simp only [List.setIfInBounds_toArray]
      try simp only [List.set_cons_succ]
      try simp only [List.set_cons_zero]
      refine wpAnyH_take (i := 60) (v := ?_) (arr_get (at8 (at8 (at8 (at8 (at8 (at8 (at8 (at_succ (at_succ (at_succ (at_succ at_zero)))))))))))) (by kernel_rfl) (by kernel_rfl) (by kernel_rfl) (fun _ _ _ h => h) (Or.inl ⟨by rfl, ?_⟩) (by assumption) ?_
      rotate_left
      · intro w9 hSw
        try dsimp only at hSw
        go_simp
        all_goals with_reducible rfl
      try simp only [Act.put]
      try simp only [List.setIfInBounds_toArray]
      try simp only [List.set_cons_succ]
      try simp only [List.set_cons_zero]
      refine wpAnyH_take (i := 61) (v := ?_) (arr_get (at8 (at8 (at8 (at8 (at8 (at8 (at8 (at_succ (at_succ (at_succ (at_succ (at_succ at_zero))))))))))))) (by kernel_rfl) (by kernel_rfl) (by kernel_rfl) (fun _ _ _ h => h) (Or.inl ⟨by rfl, ?_⟩) (by assumption) ?_
      rotate_left
      · intro w9 hSw
        try dsimp only at hSw
        go_simp
        all_goals with_reducible rfl
      try simp only [Act.put]
      try simp only [List.setIfInBounds_toArray]
      try simp only [List.set_cons_succ]
      try simp only [List.set_cons_zero]
      refine wpAnyH_take (i := 62) (v := ?_) (arr_get (at8 (at8 (at8 (at8 (at8 (at8 (at8 (at_succ (at_succ (at_succ (at_succ (at_succ (at_succ at_zero)))))))))))))) (by kernel_rfl) (by kernel_rfl) (by kernel_rfl) (fun _ _ _ h => h) (Or.inl ⟨by rfl, ?_⟩) (by assumption) ?_
      rotate_left
      · intro w9 hSw
        try dsimp only at hSw
        go_simp
        all_goals with_reducible rfl
      try simp only [Act.put]
      try simp only [List.setIfInBounds_toArray]
      try simp only [List.set_cons_succ]
      try simp only [List.set_cons_zero]
      refine wpAnyH_take (i := 64) (v := ?_) (arr_get (at8 (at8 (at8 (at8 (at8 (at8 (at8 (at8 at_zero))))))))) (by kernel_rfl) (by kernel_rfl) (by kernel_rfl) (fun _ _ _ h => h) (Or.inl ⟨by rfl, ?_⟩) (by assumption) ?_
      rotate_left
      · intro w9 hSw
        try dsimp only at hSw
        go_simp
        all_goals with_reducible rfl
      try simp only [Act.put]
      try simp only [List.setIfInBounds_toArray]
      try simp only [List.set_cons_succ]
      try simp only [List.set_cons_zero]
      refine wpAnyH_ready (rs := [63]) (by kernel_rfl) (by simp) ?_
      refine AllReadyH.cons (arr_get (at8 (at8 (at8 (at8 (at8 (at8 (at8 (at_succ (at_succ (at_succ (at_succ (at_succ (at_succ (at_succ at_zero))))))))))))))) (fun K hK => ?_) AllReadyH.nil
      go_simp
      go_at_call 22
      with_reducible refine (hT9.out _ (by assumption)).mono ?_
      rintro e w5 ⟨rfl, hb5⟩
      have hB5 := bchain (show Below W.heap.size W _ by assumption) hb5
      try go_wp2_with fail
      refine hK.out _ _ (by (try dsimp only); with_reducible exact hS.out _ hB5) (fun hHeld => ?_)
      clear hK K
      try simp only [Act.put]
      try simp only [List.setIfInBounds_toArray]
      try simp only [List.set_cons_succ]
      try simp only [List.set_cons_zero]
      refine wpAnyH_ready (rs := [65]) (by kernel_rfl) (by simp) ?_
      refine AllReadyH.cons (arr_get (at8 (at8 (at8 (at8 (at8 (at8 (at8 (at8 (at_succ at_zero)))))))))) (fun K hK => ?_) AllReadyH.nil
      go_simp
      go_at_call 16
      with_reducible refine (hT10.out _ (by assumption)).mono ?_
      rintro e w5 ⟨rfl, hb5⟩
      have hB5 := bchain (show Below W.heap.size W _ by assumption) hb5
      try go_wp2_with fail
      refine hK.out _ _ (by (try dsimp only); with_reducible exact hS.out _ hB5) (fun hHeld => ?_)
      clear hK K
      try simp only [Act.put]
      try simp only [List.setIfInBounds_toArray]
      try simp only [List.set_cons_succ]
      try simp only [List.set_cons_zero]
      refine wpAnyH_take (i := 66) (v := ?_) (arr_get (at8 (at8 (at8 (at8 (at8 (at8 (at8 (at8 (at_succ (at_succ at_zero))))))))))) (by kernel_rfl) (by kernel_rfl) (by kernel_rfl) (fun _ _ _ h => h) (Or.inl ⟨by rfl, ?_⟩) (by assumption) ?_
      rotate_left
      · intro w9 hSw
        try dsimp only at hSw
        go_simp
        all_goals with_reducible rfl
      try simp only [Act.put]
      try simp only [List.setIfInBounds_toArray]
      try simp only [List.set_cons_succ]
      try simp only [List.set_cons_zero]
      refine wpAnyH_take (i := 67) (v := ?_) (arr_get (at8 (at8 (at8 (at8 (at8 (at8 (at8 (at8 (at_succ (at_succ (at_succ at_zero)))))))))))) (by kernel_rfl) (by kernel_rfl) (by kernel_rfl) (fun _ _ _ h => h) (Or.inl ⟨by rfl, ?_⟩) (by assumption) ?_
      rotate_left
      · intro w9 hSw
        try dsimp only at hSw
        go_simp
        all_goals with_reducible rfl
      try simp only [Act.put]
      try simp only [List.setIfInBounds_toArray]
      try simp only [List.set_cons_succ]
      try simp only [List.set_cons_zero]
      refine wpAnyH_done (by kernel_rfl) ?_ _
      refine NoPanic.normal ?_
      go_wp2_with fail
      go_meet
      exact hid ⟨rfl, by assumption⟩
    · rw [HBK.out] at ho hkb
      have ho : ok = true := ho
      subst ho
      by_cases hkk : (kinR (tl t) : Int) = k
      · have hkb := hkb hkk
        injection hkb with hkb _
        injection hkb with e1 hkb
        injection hkb with e2 hkb
        injection hkb with e3 hkb
        injection hkb with e4 hkb
        injection hkb with e5 e6
        replace e1 := e1.symm
        replace e2 := e2.symm
        replace e3 := e3.symm
        replace e4 := e4.symm
        replace e5 := e5.symm
        replace e6 := e6.symm
        subst e1 e2 e3 e4 e5 e6
        have hiE : t.toList.isEmpty = false := by rw [tl_empty]; exact decide_eq_false hte
        have hkq : ((kinR (tl t) : Int) == k) = true := by simpa using hkk
        clear hkk
        have hS : Hid (∀ w9 : World, Below W.heap.size W w9 → Below W.heap.size W w9 ∧ w9.cell? ⟨w1.heap.size, 0, none⟩ = some (.int .i64 k) ∧ w9.cell? ⟨w1.heap.size, 1, none⟩ = some (.slice s.A p.length s.c) ∧ w9.cell? ⟨w1.heap.size, 2, none⟩ = some (.slice s.A2 m.length s.c2) ∧ w9.cell? ⟨w1.heap.size, 3, none⟩ = some (.slice s.A3 y.length s.c3) ∧ w9.cell? ⟨w1.heap.size, 4, none⟩ = some (.slice s.A4 q1.length s.c4) ∧ w9.cell? ⟨w1.heap.size, 5, none⟩ = some (.slice s.A5 q2.length s.c5) ∧ w9.cell? ⟨w3.heap.size, 0, none⟩ = some (.int .i64 k) ∧ w9.cell? ⟨w3.heap.size, 1, none⟩ = some (.slice s2.A p.length s2.c) ∧ w9.cell? ⟨w3.heap.size, 2, none⟩ = some (.slice s2.A2 m.length s2.c2) ∧ w9.cell? ⟨w3.heap.size, 3, none⟩ = some (.slice s2.A3 y.length s2.c3) ∧ w9.cell? ⟨w3.heap.size, 4, none⟩ = some (.slice s2.A4 q1.length s2.c4) ∧ w9.cell? ⟨w3.heap.size, 5, none⟩ = some (.slice s2.A5 q2.length s2.c5) ∧ w9.cell? ⟨w7.heap.size, 0, none⟩ = some (.int .i64 k3) ∧ w9.cell? ⟨w7.heap.size, 1, none⟩ = some (.slice s3.A p3.length s3.c) ∧ w9.cell? ⟨w7.heap.size, 2, none⟩ = some (.slice s3.A2 m3.length s3.c2) ∧ w9.cell? ⟨w7.heap.size, 3, none⟩ = some (.slice s3.A3 y3.length s3.c3) ∧ w9.cell? ⟨w7.heap.size, 4, none⟩ = some (.slice s3.A4 a3.length s3.c4) ∧ w9.cell? ⟨w7.heap.size, 5, none⟩ = some (.slice s3.A5 b3.length s3.c5) ∧ w9.cell? ⟨w8.heap.size, 0, none⟩ = some (.int .i64 k3) ∧ w9.cell? ⟨w8.heap.size, 1, none⟩ = some (.slice s4.A p3.length s4.c) ∧ w9.cell? ⟨w8.heap.size, 2, none⟩ = some (.slice s4.A2 m3.length s4.c2) ∧ w9.cell? ⟨w8.heap.size, 3, none⟩ = some (.slice s4.A3 y3.length s4.c3) ∧ w9.cell? ⟨w8.heap.size, 4, none⟩ = some (.slice s4.A4 a3.length s4.c4) ∧ w9.cell? ⟨w8.heap.size, 5, none⟩ = some (.slice s4.A5 b3.length s4.c5)) := by
          refine hid fun w9 b => ?_
          obtain ⟨⟨x10, x11, x12, x13, x14, x15⟩, -⟩ := zc (X1.out.below b X1.out.lt)
          obtain ⟨⟨x20, x21, x22, x23, x24, x25⟩, -⟩ := zc (X2.out.below b X2.out.lt)
          obtain ⟨⟨x30, x31, x32, x33, x34, x35⟩, -⟩ := zc (X3.out.below b X3.out.lt)
          obtain ⟨⟨x40, x41, x42, x43, x44, x45⟩, -⟩ := zc (X4.out.below b X4.out.lt)
          exact ⟨b, x10, x11, x12, x13, x14, x15, x20, x21, x22, x23, x24, x25, x30, x31, x32, x33, x34, x35, x40, x41, x42, x43, x44, x45⟩
        clear l1 l2 l3 l4
        have hT1 : Hid (∀ w9 : World, Below W.heap.size W w9 → Calls Tryz.prog 15 #[.agg #[.int .i64 k, .slice s.A p.length s.c, .slice s.A2 m.length s.c2, .slice s.A3 y.length s.c3, .slice s.A4 q1.length s.c4, .slice s.A5 q2.length s.c5]] w9 fun e w' => e = .returned (.string t) ∧ Below w9.heap.size w9 w') := by
          refine hid fun w9 b => ?_
          have h := specNotationText_any k p m y q1 q2 s w9 SM1.out (R1.out.below b)
          rw [HT.out] at h
          exact h
        have hT2 : Hid (∀ w9 : World, Below W.heap.size W w9 → Calls Tryz.prog 16 #[.string t] w9 fun e w' => e = .returned (.int .i64 (kinR (tl t) : Nat)) ∧ Below w9.heap.size w9 w') := by
          refine hid fun w9 b => ?_
          refine (specKindOfText_any t w9 (by omega)).mono ?_
          rintro e w6 ⟨h1, rfl⟩
          exact ⟨h1, Below.refl _ _⟩
        have hT3 : Hid (∀ w9 : World, Below W.heap.size W w9 → Calls Tryz.prog 17 #[.agg #[.int .i64 k, .slice s2.A p.length s2.c, .slice s2.A2 m.length s2.c2, .slice s2.A3 y.length s2.c3, .slice s2.A4 q1.length s2.c4, .slice s2.A5 q2.length s2.c5], .agg #[.int .i64 k, .slice s.A p.length s.c, .slice s.A2 m.length s.c2, .slice s.A3 y.length s.c3, .slice s.A4 q1.length s.c4, .slice s.A5 q2.length s.c5]] w9 fun e w' => e = .returned (.bool true) ∧ Below w9.heap.size w9 w') := by
          refine hid fun w9 b => ?_
          have h := SameNotation_same k p m y q1 q2 s2 s w9 SM1.out (R2.out.below b) (R1.out.below b)
          exact h
        have hT4 : Hid (∀ w9 : World, Below W.heap.size W w9 → Calls Tryz.prog 17 #[.agg #[.int .i64 k3, .slice s3.A p3.length s3.c, .slice s3.A2 m3.length s3.c2, .slice s3.A3 y3.length s3.c3, .slice s3.A4 a3.length s3.c4, .slice s3.A5 b3.length s3.c5], .agg #[.int .i64 k3, .slice s4.A p3.length s4.c, .slice s4.A2 m3.length s4.c2, .slice s4.A3 y3.length s4.c3, .slice s4.A4 a3.length s4.c4, .slice s4.A5 b3.length s4.c5]] w9 fun e w' => e = .returned (.bool true) ∧ Below w9.heap.size w9 w') := by
          refine hid fun w9 b => ?_
          have h := SameNotation_same k3 p3 m3 y3 a3 b3 s3 s4 w9 SM3.out (R3.out.below b) (R4.out.below b)
          exact h
        have hT5 : Hid (∀ w9 : World, Below W.heap.size W w9 → Calls Tryz.prog 18 #[.int .i64 kk] w9 fun e w' => e = .returned (.string (rNoteName kk)) ∧ Below w9.heap.size w9 w') := by
          refine hid fun w9 b => ?_
          have h := NoteName_any kk w9
          exact h
        have hT6 : Hid (∀ w9 : World, Below W.heap.size W w9 → Calls Tryz.prog 19 #[.int .i64 kk] w9 fun e w' => e = .returned (.string (rNoteName kk)) ∧ Below w9.heap.size w9 w') := by
          refine hid fun w9 b => ?_
          have h := specNoteName_any kk w9
          exact h
        have hT7 : Hid (∀ w9 : World, Below W.heap.size W w9 → Calls Tryz.prog 20 #[.int .i64 ff] w9 fun e w' => e = .returned (.string (rFaultName ff)) ∧ Below w9.heap.size w9 w') := by
          refine hid fun w9 b => ?_
          have h := FaultName_any ff w9
          exact h
        have hT8 : Hid (∀ w9 : World, Below W.heap.size W w9 → Calls Tryz.prog 21 #[.int .i64 ff] w9 fun e w' => e = .returned (.string (rFaultName ff)) ∧ Below w9.heap.size w9 w') := by
          refine hid fun w9 b => ?_
          have h := specFaultName_any ff w9
          exact h
        have hT9 : Hid (∀ w9 : World, Below W.heap.size W w9 → Calls Tryz.prog 22 #[.string U] w9 fun e w' => e = .returned (.int .i64 (kinR (tl U) : Nat)) ∧ Below w9.heap.size w9 w') := by
          refine hid fun w9 b => ?_
          refine (KindOfText_any U w9 (by omega)).mono ?_
          rintro e w6 ⟨h1, rfl⟩
          exact ⟨h1, Below.refl _ _⟩
        have hT10 : Hid (∀ w9 : World, Below W.heap.size W w9 → Calls Tryz.prog 16 #[.string U] w9 fun e w' => e = .returned (.int .i64 (kinR (tl U) : Nat)) ∧ Below w9.heap.size w9 w') := by
          refine hid fun w9 b => ?_
          refine (specKindOfText_any U w9 (by omega)).mono ?_
          rintro e w6 ⟨h1, rfl⟩
          exact ⟨h1, Below.refl _ _⟩
        have hBd : Below W.heap.size W W.drew := (Below.refl _ _).drew
        clear X1 R1 X2 R2 X3 R3 X4 R4
        refine wp_region_noPanic ?_
        simp only [List.append_eq, List.cons_append, List.nil_append]
        refine wp_region_held_drew (S := fun w' => Below W.heap.size W w' ∧ w'.cell? ⟨w1.heap.size, 0, none⟩ = some (.int .i64 k) ∧ w'.cell? ⟨w1.heap.size, 1, none⟩ = some (.slice s.A p.length s.c) ∧ w'.cell? ⟨w1.heap.size, 2, none⟩ = some (.slice s.A2 m.length s.c2) ∧ w'.cell? ⟨w1.heap.size, 3, none⟩ = some (.slice s.A3 y.length s.c3) ∧ w'.cell? ⟨w1.heap.size, 4, none⟩ = some (.slice s.A4 q1.length s.c4) ∧ w'.cell? ⟨w1.heap.size, 5, none⟩ = some (.slice s.A5 q2.length s.c5) ∧ w'.cell? ⟨w3.heap.size, 0, none⟩ = some (.int .i64 k) ∧ w'.cell? ⟨w3.heap.size, 1, none⟩ = some (.slice s2.A p.length s2.c) ∧ w'.cell? ⟨w3.heap.size, 2, none⟩ = some (.slice s2.A2 m.length s2.c2) ∧ w'.cell? ⟨w3.heap.size, 3, none⟩ = some (.slice s2.A3 y.length s2.c3) ∧ w'.cell? ⟨w3.heap.size, 4, none⟩ = some (.slice s2.A4 q1.length s2.c4) ∧ w'.cell? ⟨w3.heap.size, 5, none⟩ = some (.slice s2.A5 q2.length s2.c5) ∧ w'.cell? ⟨w7.heap.size, 0, none⟩ = some (.int .i64 k3) ∧ w'.cell? ⟨w7.heap.size, 1, none⟩ = some (.slice s3.A p3.length s3.c) ∧ w'.cell? ⟨w7.heap.size, 2, none⟩ = some (.slice s3.A2 m3.length s3.c2) ∧ w'.cell? ⟨w7.heap.size, 3, none⟩ = some (.slice s3.A3 y3.length s3.c3) ∧ w'.cell? ⟨w7.heap.size, 4, none⟩ = some (.slice s3.A4 a3.length s3.c4) ∧ w'.cell? ⟨w7.heap.size, 5, none⟩ = some (.slice s3.A5 b3.length s3.c5) ∧ w'.cell? ⟨w8.heap.size, 0, none⟩ = some (.int .i64 k3) ∧ w'.cell? ⟨w8.heap.size, 1, none⟩ = some (.slice s4.A p3.length s4.c) ∧ w'.cell? ⟨w8.heap.size, 2, none⟩ = some (.slice s4.A2 m3.length s4.c2) ∧ w'.cell? ⟨w8.heap.size, 3, none⟩ = some (.slice s4.A3 y3.length s4.c3) ∧ w'.cell? ⟨w8.heap.size, 4, none⟩ = some (.slice s4.A4 a3.length s4.c4) ∧ w'.cell? ⟨w8.heap.size, 5, none⟩ = some (.slice s4.A5 b3.length s4.c5)) (by kernel_rfl) ?_ (fun hHeld => ?_)
        · with_reducible exact hS.out _ hBd
        refine wpAnyH_take (i := 0) (v := ?_) (arr_get at_zero) (by kernel_rfl) (by kernel_rfl) (by kernel_rfl) (fun _ _ _ h => h) (Or.inl ⟨by rfl, ?_⟩) (by assumption) ?_
        rotate_left
        · intro w9 hSw
          try dsimp only at hSw
          go_simp
          all_goals with_reducible rfl
        try simp only [Act.put]
        try simp only [List.setIfInBounds_toArray]
        try simp only [List.set_cons_succ]
        try simp only [List.set_cons_zero]
        refine wpAnyH_take (i := 1) (v := ?_) (arr_get (at_succ at_zero)) (by kernel_rfl) (by kernel_rfl) (by kernel_rfl) (fun _ _ _ h => h) (Or.inl ⟨by rfl, ?_⟩) (by assumption) ?_
        rotate_left
        · intro w9 hSw
          try dsimp only at hSw
          go_simp
          all_goals with_reducible rfl
        try simp only [Act.put]
        try simp only [List.setIfInBounds_toArray]
        try simp only [List.set_cons_succ]
        try simp only [List.set_cons_zero]
        refine wpAnyH_ready (rs := [2]) (by kernel_rfl) (by simp) ?_
        refine AllReadyH.cons (arr_get (at_succ (at_succ at_zero))) (fun K hK => ?_) AllReadyH.nil
        go_simp
        go_at_call 15
        with_reducible refine (hT1.out _ (by assumption)).mono ?_
        rintro e w5 ⟨rfl, hb5⟩
        have hB5 := bchain (show Below W.heap.size W _ by assumption) hb5
        try go_wp2_with fail
        refine hK.out _ _ (by (try dsimp only); with_reducible exact hS.out _ hB5) (fun hHeld => ?_)
        clear hK K
        try simp only [Act.put]
        try simp only [List.setIfInBounds_toArray]
        try simp only [List.set_cons_succ]
        try simp only [List.set_cons_zero]
        refine wpAnyH_take (i := 3) (v := ?_) (arr_get (at_succ (at_succ (at_succ at_zero)))) (by kernel_rfl) (by kernel_rfl) (by kernel_rfl) (fun _ _ _ h => h) (Or.inl ⟨by rfl, ?_⟩) (by assumption) ?_
        rotate_left
        · intro w9 hSw
          try dsimp only at hSw
          go_simp
          all_goals with_reducible rfl
        try simp only [Act.put]
        try simp only [List.setIfInBounds_toArray]
        try simp only [List.set_cons_succ]
        try simp only [List.set_cons_zero]
        refine wpAnyH_take (i := 4) (v := ?_) (arr_get (at_succ (at_succ (at_succ (at_succ at_zero))))) (by kernel_rfl) (by kernel_rfl) (by kernel_rfl) (fun _ _ _ h => h) (Or.inl ⟨by rfl, ?_⟩) (by assumption) ?_
        rotate_left
        · intro w9 hSw
          try dsimp only at hSw
          go_simp
          all_goals with_reducible rfl
        try simp only [Act.put]
        try simp only [List.setIfInBounds_toArray]
        try simp only [List.set_cons_succ]
        try simp only [List.set_cons_zero]
        refine wpAnyH_take (i := 5) (v := ?_) (arr_get (at_succ (at_succ (at_succ (at_succ (at_succ at_zero)))))) (by kernel_rfl) (by kernel_rfl) (by kernel_rfl) (fun _ _ _ h => h) (Or.inl ⟨by rfl, ?_⟩) (by assumption) ?_
        rotate_left
        · intro w9 hSw
          try dsimp only at hSw
          go_simp
          all_goals with_reducible rfl
        try simp only [Act.put]
        try simp only [List.setIfInBounds_toArray]
        try simp only [List.set_cons_succ]
        try simp only [List.set_cons_zero]
        refine wpAnyH_take (i := 6) (v := ?_) (arr_get (at_succ (at_succ (at_succ (at_succ (at_succ (at_succ at_zero))))))) (by kernel_rfl) (by kernel_rfl) (by kernel_rfl) (fun _ _ _ h => h) (Or.inl ⟨by rfl, ?_⟩) (by assumption) ?_
        rotate_left
        · intro w9 hSw
          try dsimp only at hSw
          go_simp
          all_goals with_reducible rfl
        try simp only [Act.put]
        try simp only [List.setIfInBounds_toArray]
        try simp only [List.set_cons_succ]
        try simp only [List.set_cons_zero]
        refine wpAnyH_take (i := 7) (v := ?_) (arr_get (at_succ (at_succ (at_succ (at_succ (at_succ (at_succ (at_succ at_zero)))))))) (by kernel_rfl) (by kernel_rfl) (by kernel_rfl) (fun _ _ _ h => h) (Or.inl ⟨by rfl, ?_⟩) (by assumption) ?_
        rotate_left
        · intro w9 hSw
          try dsimp only at hSw
          go_simp
          all_goals with_reducible rfl
        try simp only [Act.put]
        try simp only [List.setIfInBounds_toArray]
        try simp only [List.set_cons_succ]
        try simp only [List.set_cons_zero]
        refine wpAnyH_take (i := 8) (v := ?_) (arr_get (at8 at_zero)) (by kernel_rfl) (by kernel_rfl) (by kernel_rfl) (fun _ _ _ h => h) (Or.inl ⟨by rfl, ?_⟩) (by assumption) ?_
        rotate_left
        · intro w9 hSw
          try dsimp only at hSw
          go_simp
          all_goals with_reducible rfl
        try simp only [Act.put]
        try simp only [List.setIfInBounds_toArray]
        try simp only [List.set_cons_succ]
        try simp only [List.set_cons_zero]
        refine wpAnyH_take (i := 9) (v := ?_) (arr_get (at8 (at_succ at_zero))) (by kernel_rfl) (by kernel_rfl) (by kernel_rfl) (fun _ _ _ h => h) (Or.inl ⟨by rfl, ?_⟩) (by assumption) ?_
        rotate_left
        · intro w9 hSw
          try dsimp only at hSw
          go_simp
          all_goals with_reducible rfl
        try simp only [Act.put]
        try simp only [List.setIfInBounds_toArray]
        try simp only [List.set_cons_succ]
        try simp only [List.set_cons_zero]
        refine wpAnyH_take (i := 10) (v := ?_) (arr_get (at8 (at_succ (at_succ at_zero)))) (by kernel_rfl) (by kernel_rfl) (by kernel_rfl) (fun _ _ _ h => h) (Or.inl ⟨by rfl, ?_⟩) (by assumption) ?_
        rotate_left
        · intro w9 hSw
          try dsimp only at hSw
          go_simp
          all_goals with_reducible rfl
        try simp only [Act.put]
        try simp only [List.setIfInBounds_toArray]
        try simp only [List.set_cons_succ]
        try simp only [List.set_cons_zero]
        refine wpAnyH_take (i := 11) (v := ?_) (arr_get (at8 (at_succ (at_succ (at_succ at_zero))))) (by kernel_rfl) (by kernel_rfl) (by kernel_rfl) (fun _ _ _ h => h) (Or.inl ⟨by rfl, ?_⟩) (by assumption) ?_
        rotate_left
        · intro w9 hSw
          try dsimp only at hSw
          go_simp
          all_goals with_reducible rfl
        try simp only [Act.put]
        try simp only [List.setIfInBounds_toArray]
        try simp only [List.set_cons_succ]
        try simp only [List.set_cons_zero]
        refine wpAnyH_take (i := 12) (v := ?_) (arr_get (at8 (at_succ (at_succ (at_succ (at_succ at_zero)))))) (by kernel_rfl) (by kernel_rfl) (by kernel_rfl) (fun _ _ _ h => h) (Or.inl ⟨by rfl, ?_⟩) (by assumption) ?_
        rotate_left
        · intro w9 hSw
          try dsimp only at hSw
          go_simp
          all_goals with_reducible rfl
        try simp only [Act.put]
        try simp only [List.setIfInBounds_toArray]
        try simp only [List.set_cons_succ]
        try simp only [List.set_cons_zero]
        refine wpAnyH_take (i := 13) (v := ?_) (arr_get (at8 (at_succ (at_succ (at_succ (at_succ (at_succ at_zero))))))) (by kernel_rfl) (by kernel_rfl) (by kernel_rfl) (fun _ _ _ h => h) (Or.inl ⟨by rfl, ?_⟩) (by assumption) ?_
        rotate_left
        · intro w9 hSw
          try dsimp only at hSw
          go_simp
          all_goals with_reducible rfl
        try simp only [Act.put]
        try simp only [List.setIfInBounds_toArray]
        try simp only [List.set_cons_succ]
        try simp only [List.set_cons_zero]
        refine wpAnyH_take (i := 15) (v := ?_) (arr_get (at8 (at_succ (at_succ (at_succ (at_succ (at_succ (at_succ (at_succ at_zero))))))))) (by kernel_rfl) (by kernel_rfl) (by kernel_rfl) (fun _ _ _ h => h) (Or.inl ⟨by rfl, ?_⟩) (by assumption) ?_
        rotate_left
        · intro w9 hSw
          try dsimp only at hSw
          go_simp
          all_goals with_reducible rfl
        try simp only [Act.put]
        try simp only [List.setIfInBounds_toArray]
        try simp only [List.set_cons_succ]
        try simp only [List.set_cons_zero]
        refine wpAnyH_take (i := 16) (v := ?_) (arr_get (at8 (at8 at_zero))) (by kernel_rfl) (by kernel_rfl) (by kernel_rfl) (fun _ _ _ h => h) (Or.inl ⟨by rfl, ?_⟩) (by assumption) ?_
        rotate_left
        · intro w9 hSw
          try dsimp only at hSw
          go_simp
          all_goals with_reducible rfl
        try simp only [Act.put]
        try simp only [List.setIfInBounds_toArray]
        try simp only [List.set_cons_succ]
        try simp only [List.set_cons_zero]
        refine wpAnyH_ready (rs := [14]) (by kernel_rfl) (by simp) ?_
        refine AllReadyH.cons (arr_get (at8 (at_succ (at_succ (at_succ (at_succ (at_succ (at_succ at_zero)))))))) (fun K hK => ?_) AllReadyH.nil
        go_simp
        go_at_call 16
        with_reducible refine (hT2.out _ (by assumption)).mono ?_
        rintro e w5 ⟨rfl, hb5⟩
        have hB5 := bchain (show Below W.heap.size W _ by assumption) hb5
        try go_wp2_with fail
        refine hK.out _ _ (by (try dsimp only); with_reducible exact hS.out _ hB5) (fun hHeld => ?_)
        clear hK K
        try simp only [Act.put]
        try simp only [List.setIfInBounds_toArray]
        try simp only [List.set_cons_succ]
        try simp only [List.set_cons_zero]
        refine wpAnyH_take (i := 17) (v := ?_) (arr_get (at8 (at8 (at_succ at_zero)))) (by kernel_rfl) (by kernel_rfl) (by kernel_rfl) (fun _ _ _ h => h) (Or.inl ⟨by rfl, ?_⟩) (by assumption) ?_
        rotate_left
        · intro w9 hSw
          try dsimp only at hSw
          go_simp
          all_goals with_reducible rfl
        try simp only [Act.put]
        try simp only [List.setIfInBounds_toArray]
        try simp only [List.set_cons_succ]
        try simp only [List.set_cons_zero]
        refine wpAnyH_take (i := 18) (v := ?_) (arr_get (at8 (at8 (at_succ (at_succ at_zero))))) (by kernel_rfl) (by kernel_rfl) (by kernel_rfl) (fun _ _ _ h => h) (Or.inl ⟨by rfl, ?_⟩) (by assumption) ?_
        rotate_left
        · intro w9 hSw
          try dsimp only at hSw
          go_simp
          all_goals with_reducible rfl
        try simp only [Act.put]
        try simp only [List.setIfInBounds_toArray]
        try simp only [List.set_cons_succ]
        try simp only [List.set_cons_zero]
        refine wpAnyH_take (i := 19) (v := ?_) (arr_get (at8 (at8 (at_succ (at_succ (at_succ at_zero)))))) (by kernel_rfl) (by kernel_rfl) (by kernel_rfl) (fun _ _ _ h => h) (Or.inl ⟨by rfl, ?_⟩) (by assumption) ?_
        rotate_left
        · intro w9 hSw
          try dsimp only at hSw
          go_simp
          all_goals with_reducible rfl
        try simp only [Act.put]
        try simp only [List.setIfInBounds_toArray]
        try simp only [List.set_cons_succ]
        try simp only [List.set_cons_zero]
        refine wpAnyH_take (i := 20) (v := ?_) (arr_get (at8 (at8 (at_succ (at_succ (at_succ (at_succ at_zero))))))) (by kernel_rfl) (by kernel_rfl) (by kernel_rfl) (fun _ _ _ h => h) (Or.inl ⟨by rfl, ?_⟩) (by assumption) ?_
        rotate_left
        · intro w9 hSw
          try dsimp only at hSw
          go_simp
          all_goals with_reducible rfl
        try simp only [Act.put]
        try simp only [List.setIfInBounds_toArray]
        try simp only [List.set_cons_succ]
        try simp only [List.set_cons_zero]
        refine wpAnyH_take (i := 21) (v := ?_) (arr_get (at8 (at8 (at_succ (at_succ (at_succ (at_succ (at_succ at_zero)))))))) (by kernel_rfl) (by kernel_rfl) (by kernel_rfl) (fun _ _ _ h => h) (Or.inl ⟨by rfl, ?_⟩) (by assumption) ?_
        rotate_left
        · intro w9 hSw
          try dsimp only at hSw
          go_simp
          all_goals with_reducible rfl
        try simp only [Act.put]
        try simp only [List.setIfInBounds_toArray]
        try simp only [List.set_cons_succ]
        try simp only [List.set_cons_zero]
        refine wpAnyH_ready (rs := [22]) (by kernel_rfl) (by simp) ?_
        refine AllReadyH.cons (arr_get (at8 (at8 (at_succ (at_succ (at_succ (at_succ (at_succ (at_succ at_zero))))))))) (fun K hK => ?_) AllReadyH.nil
        go_simp
        go_at_call 17
        with_reducible refine (hT3.out _ (by assumption)).mono ?_
        rintro e w5 ⟨rfl, hb5⟩
        have hB5 := bchain (show Below W.heap.size W _ by assumption) hb5
        try go_wp2_with fail
        refine hK.out _ _ (by (try dsimp only); with_reducible exact hS.out _ hB5) (fun hHeld => ?_)
        clear hK K
        try simp only [Act.put]
        try simp only [List.setIfInBounds_toArray]
        try simp only [List.set_cons_succ]
        try simp only [List.set_cons_zero]
        refine wpAnyH_take (i := 23) (v := ?_) (arr_get (at8 (at8 (at_succ (at_succ (at_succ (at_succ (at_succ (at_succ (at_succ at_zero)))))))))) (by kernel_rfl) (by kernel_rfl) (by kernel_rfl) (fun _ _ _ h => h) (Or.inl ⟨by rfl, ?_⟩) (by assumption) ?_
        rotate_left
        · intro w9 hSw
          try dsimp only at hSw
          go_simp
          all_goals with_reducible rfl
        try simp only [Act.put]
        try simp only [List.setIfInBounds_toArray]
        try simp only [List.set_cons_succ]
        try simp only [List.set_cons_zero]
        refine wpAnyH_take (i := 24) (v := ?_) (arr_get (at8 (at8 (at8 at_zero)))) (by kernel_rfl) (by kernel_rfl) (by kernel_rfl) (fun _ _ _ h => h) (Or.inl ⟨by rfl, ?_⟩) (by assumption) ?_
        rotate_left
        · intro w9 hSw
          try dsimp only at hSw
          go_simp
          all_goals with_reducible rfl
        try simp only [Act.put]
        try simp only [List.setIfInBounds_toArray]
        try simp only [List.set_cons_succ]
        try simp only [List.set_cons_zero]
        refine wpAnyH_take (i := 25) (v := ?_) (arr_get (at8 (at8 (at8 (at_succ at_zero))))) (by kernel_rfl) (by kernel_rfl) (by kernel_rfl) (fun _ _ _ h => h) (Or.inl ⟨by rfl, ?_⟩) (by assumption) ?_
        rotate_left
        · intro w9 hSw
          try dsimp only at hSw
          go_simp
          all_goals with_reducible rfl
        try simp only [Act.put]
        try simp only [List.setIfInBounds_toArray]
        try simp only [List.set_cons_succ]
        try simp only [List.set_cons_zero]
        refine wpAnyH_take (i := 26) (v := ?_) (arr_get (at8 (at8 (at8 (at_succ (at_succ at_zero)))))) (by kernel_rfl) (by kernel_rfl) (by kernel_rfl) (fun _ _ _ h => h) (Or.inl ⟨by rfl, ?_⟩) (by assumption) ?_
        rotate_left
        · intro w9 hSw
          try dsimp only at hSw
          go_simp
          all_goals with_reducible rfl
        try simp only [Act.put]
        try simp only [List.setIfInBounds_toArray]
        try simp only [List.set_cons_succ]
        try simp only [List.set_cons_zero]
        refine wpAnyH_take (i := 27) (v := ?_) (arr_get (at8 (at8 (at8 (at_succ (at_succ (at_succ at_zero))))))) (by kernel_rfl) (by kernel_rfl) (by kernel_rfl) (fun _ _ _ h => h) (Or.inl ⟨by rfl, ?_⟩) (by assumption) ?_
        rotate_left
        · intro w9 hSw
          try dsimp only at hSw
          go_simp
          all_goals with_reducible rfl
        try simp only [Act.put]
        try simp only [List.setIfInBounds_toArray]
        try simp only [List.set_cons_succ]
        try simp only [List.set_cons_zero]
        refine wpAnyH_take (i := 28) (v := ?_) (arr_get (at8 (at8 (at8 (at_succ (at_succ (at_succ (at_succ at_zero)))))))) (by kernel_rfl) (by kernel_rfl) (by kernel_rfl) (fun _ _ _ h => h) (Or.inl ⟨by rfl, ?_⟩) (by assumption) ?_
        rotate_left
        · intro w9 hSw
          try dsimp only at hSw
          go_simp
          all_goals with_reducible rfl
        try simp only [Act.put]
        try simp only [List.setIfInBounds_toArray]
        try simp only [List.set_cons_succ]
        try simp only [List.set_cons_zero]
        refine wpAnyH_take (i := 29) (v := ?_) (arr_get (at8 (at8 (at8 (at_succ (at_succ (at_succ (at_succ (at_succ at_zero))))))))) (by kernel_rfl) (by kernel_rfl) (by kernel_rfl) (fun _ _ _ h => h) (Or.inl ⟨by rfl, ?_⟩) (by assumption) ?_
        rotate_left
        · intro w9 hSw
          try dsimp only at hSw
          go_simp
          all_goals with_reducible rfl
        try simp only [Act.put]
        try simp only [List.setIfInBounds_toArray]
        try simp only [List.set_cons_succ]
        try simp only [List.set_cons_zero]
        refine wpAnyH_take (i := 30) (v := ?_) (arr_get (at8 (at8 (at8 (at_succ (at_succ (at_succ (at_succ (at_succ (at_succ at_zero)))))))))) (by kernel_rfl) (by kernel_rfl) (by kernel_rfl) (fun _ _ _ h => h) (Or.inl ⟨by rfl, ?_⟩) (by assumption) ?_
        rotate_left
        · intro w9 hSw
          try dsimp only at hSw
          go_simp
          all_goals with_reducible rfl
        try simp only [Act.put]
        try simp only [List.setIfInBounds_toArray]
        try simp only [List.set_cons_succ]
        try simp only [List.set_cons_zero]
        refine wpAnyH_take (i := 31) (v := ?_) (arr_get (at8 (at8 (at8 (at_succ (at_succ (at_succ (at_succ (at_succ (at_succ (at_succ at_zero))))))))))) (by kernel_rfl) (by kernel_rfl) (by kernel_rfl) (fun _ _ _ h => h) (Or.inl ⟨by rfl, ?_⟩) (by assumption) ?_
        rotate_left
        · intro w9 hSw
          try dsimp only at hSw
          go_simp
          all_goals with_reducible rfl
        try simp only [Act.put]
        try simp only [List.setIfInBounds_toArray]
        try simp only [List.set_cons_succ]
        try simp only [List.set_cons_zero]
        refine wpAnyH_take (i := 32) (v := ?_) (arr_get (at8 (at8 (at8 (at8 at_zero))))) (by kernel_rfl) (by kernel_rfl) (by kernel_rfl) (fun _ _ _ h => h) (Or.inl ⟨by rfl, ?_⟩) (by assumption) ?_
        rotate_left
        · intro w9 hSw
          try dsimp only at hSw
          go_simp
          all_goals with_reducible rfl
        try simp only [Act.put]
        try simp only [List.setIfInBounds_toArray]
        try simp only [List.set_cons_succ]
        try simp only [List.set_cons_zero]
        refine wpAnyH_take (i := 33) (v := ?_) (arr_get (at8 (at8 (at8 (at8 (at_succ at_zero)))))) (by kernel_rfl) (by kernel_rfl) (by kernel_rfl) (fun _ _ _ h => h) (Or.inl ⟨by rfl, ?_⟩) (by assumption) ?_
        rotate_left
        · intro w9 hSw
          try dsimp only at hSw
          go_simp
          all_goals with_reducible rfl
        try simp only [Act.put]
        try simp only [List.setIfInBounds_toArray]
        try simp only [List.set_cons_succ]
        try simp only [List.set_cons_zero]
        refine wpAnyH_take (i := 34) (v := ?_) (arr_get (at8 (at8 (at8 (at8 (at_succ (at_succ at_zero))))))) (by kernel_rfl) (by kernel_rfl) (by kernel_rfl) (fun _ _ _ h => h) (Or.inl ⟨by rfl, ?_⟩) (by assumption) ?_
        rotate_left
        · intro w9 hSw
          try dsimp only at hSw
          go_simp
          all_goals with_reducible rfl
        try simp only [Act.put]
        try simp only [List.setIfInBounds_toArray]
        try simp only [List.set_cons_succ]
        try simp only [List.set_cons_zero]
        refine wpAnyH_take (i := 35) (v := ?_) (arr_get (at8 (at8 (at8 (at8 (at_succ (at_succ (at_succ at_zero)))))))) (by kernel_rfl) (by kernel_rfl) (by kernel_rfl) (fun _ _ _ h => h) (Or.inl ⟨by rfl, ?_⟩) (by assumption) ?_
        rotate_left
        · intro w9 hSw
          try dsimp only at hSw
          go_simp
          all_goals with_reducible rfl
        try simp only [Act.put]
        try simp only [List.setIfInBounds_toArray]
        try simp only [List.set_cons_succ]
        try simp only [List.set_cons_zero]
        refine wpAnyH_take (i := 36) (v := ?_) (arr_get (at8 (at8 (at8 (at8 (at_succ (at_succ (at_succ (at_succ at_zero))))))))) (by kernel_rfl) (by kernel_rfl) (by kernel_rfl) (fun _ _ _ h => h) (Or.inl ⟨by rfl, ?_⟩) (by assumption) ?_
        rotate_left
        · intro w9 hSw
          try dsimp only at hSw
          go_simp
          all_goals with_reducible rfl
        try simp only [Act.put]
        try simp only [List.setIfInBounds_toArray]
        try simp only [List.set_cons_succ]
        try simp only [List.set_cons_zero]
        refine wpAnyH_take (i := 37) (v := ?_) (arr_get (at8 (at8 (at8 (at8 (at_succ (at_succ (at_succ (at_succ (at_succ at_zero)))))))))) (by kernel_rfl) (by kernel_rfl) (by kernel_rfl) (fun _ _ _ h => h) (Or.inl ⟨by rfl, ?_⟩) (by assumption) ?_
        rotate_left
        · intro w9 hSw
          try dsimp only at hSw
          go_simp
          all_goals with_reducible rfl
        try simp only [Act.put]
        try simp only [List.setIfInBounds_toArray]
        try simp only [List.set_cons_succ]
        try simp only [List.set_cons_zero]
        refine wpAnyH_take (i := 38) (v := ?_) (arr_get (at8 (at8 (at8 (at8 (at_succ (at_succ (at_succ (at_succ (at_succ (at_succ at_zero))))))))))) (by kernel_rfl) (by kernel_rfl) (by kernel_rfl) (fun _ _ _ h => h) (Or.inl ⟨by rfl, ?_⟩) (by assumption) ?_
        rotate_left
        · intro w9 hSw
          try dsimp only at hSw
          go_simp
          all_goals with_reducible rfl
        try simp only [Act.put]
        try simp only [List.setIfInBounds_toArray]
        try simp only [List.set_cons_succ]
        try simp only [List.set_cons_zero]
        refine wpAnyH_take (i := 39) (v := ?_) (arr_get (at8 (at8 (at8 (at8 (at_succ (at_succ (at_succ (at_succ (at_succ (at_succ (at_succ at_zero)))))))))))) (by kernel_rfl) (by kernel_rfl) (by kernel_rfl) (fun _ _ _ h => h) (Or.inl ⟨by rfl, ?_⟩) (by assumption) ?_
        rotate_left
        · intro w9 hSw
          try dsimp only at hSw
          go_simp
          all_goals with_reducible rfl
        try simp only [Act.put]
        try simp only [List.setIfInBounds_toArray]
        try simp only [List.set_cons_succ]
        try simp only [List.set_cons_zero]
        refine wpAnyH_take (i := 40) (v := ?_) (arr_get (at8 (at8 (at8 (at8 (at8 at_zero)))))) (by kernel_rfl) (by kernel_rfl) (by kernel_rfl) (fun _ _ _ h => h) (Or.inl ⟨by rfl, ?_⟩) (by assumption) ?_
        rotate_left
        · intro w9 hSw
          try dsimp only at hSw
          go_simp
          all_goals with_reducible rfl
        try simp only [Act.put]
        try simp only [List.setIfInBounds_toArray]
        try simp only [List.set_cons_succ]
        try simp only [List.set_cons_zero]
        refine wpAnyH_take (i := 41) (v := ?_) (arr_get (at8 (at8 (at8 (at8 (at8 (at_succ at_zero))))))) (by kernel_rfl) (by kernel_rfl) (by kernel_rfl) (fun _ _ _ h => h) (Or.inl ⟨by rfl, ?_⟩) (by assumption) ?_
        rotate_left
        · intro w9 hSw
          try dsimp only at hSw
          go_simp
          all_goals with_reducible rfl
        try simp only [Act.put]
        try simp only [List.setIfInBounds_toArray]
        try simp only [List.set_cons_succ]
        try simp only [List.set_cons_zero]
        refine wpAnyH_take (i := 42) (v := ?_) (arr_get (at8 (at8 (at8 (at8 (at8 (at_succ (at_succ at_zero)))))))) (by kernel_rfl) (by kernel_rfl) (by kernel_rfl) (fun _ _ _ h => h) (Or.inl ⟨by rfl, ?_⟩) (by assumption) ?_
        rotate_left
        · intro w9 hSw
          try dsimp only at hSw
          go_simp
          all_goals with_reducible rfl
        try simp only [Act.put]
        try simp only [List.setIfInBounds_toArray]
        try simp only [List.set_cons_succ]
        try simp only [List.set_cons_zero]
        refine wpAnyH_take (i := 43) (v := ?_) (arr_get (at8 (at8 (at8 (at8 (at8 (at_succ (at_succ (at_succ at_zero))))))))) (by kernel_rfl) (by kernel_rfl) (by kernel_rfl) (fun _ _ _ h => h) (Or.inl ⟨by rfl, ?_⟩) (by assumption) ?_
        rotate_left
        · intro w9 hSw
          try dsimp only at hSw
          go_simp
          all_goals with_reducible rfl
        try simp only [Act.put]
        try simp only [List.setIfInBounds_toArray]
        try simp only [List.set_cons_succ]
        try simp only [List.set_cons_zero]
        refine wpAnyH_ready (rs := [44]) (by kernel_rfl) (by simp) ?_
        refine AllReadyH.cons (arr_get (at8 (at8 (at8 (at8 (at8 (at_succ (at_succ (at_succ (at_succ at_zero)))))))))) (fun K hK => ?_) AllReadyH.nil
        go_simp
        go_at_call 17
        with_reducible refine (hT4.out _ (by assumption)).mono ?_
        rintro e w5 ⟨rfl, hb5⟩
        have hB5 := bchain (show Below W.heap.size W _ by assumption) hb5
        try go_wp2_with fail
        refine hK.out _ _ (by (try dsimp only); with_reducible exact hS.out _ hB5) (fun hHeld => ?_)
        clear hK K
        try simp only [Act.put]
        try simp only [List.setIfInBounds_toArray]
        try simp only [List.set_cons_succ]
        try simp only [List.set_cons_zero]
        refine wpAnyH_take (i := 45) (v := ?_) (arr_get (at8 (at8 (at8 (at8 (at8 (at_succ (at_succ (at_succ (at_succ (at_succ at_zero))))))))))) (by kernel_rfl) (by kernel_rfl) (by kernel_rfl) (fun _ _ _ h => h) (Or.inl ⟨by rfl, ?_⟩) (by assumption) ?_
        rotate_left
        · intro w9 hSw
          try dsimp only at hSw
          go_simp
          all_goals with_reducible rfl
        try simp only [Act.put]
        try simp only [List.setIfInBounds_toArray]
        try simp only [List.set_cons_succ]
        try simp only [List.set_cons_zero]
        refine wpAnyH_take (i := 46) (v := ?_) (arr_get (at8 (at8 (at8 (at8 (at8 (at_succ (at_succ (at_succ (at_succ (at_succ (at_succ at_zero)))))))))))) (by kernel_rfl) (by kernel_rfl) (by kernel_rfl) (fun _ _ _ h => h) (Or.inl ⟨by rfl, ?_⟩) (by assumption) ?_
        rotate_left
        · intro w9 hSw
          try dsimp only at hSw
          go_simp
          all_goals with_reducible rfl
        try simp only [Act.put]
        try simp only [List.setIfInBounds_toArray]
        try simp only [List.set_cons_succ]
        try simp only [List.set_cons_zero]
        refine wpAnyH_take (i := 47) (v := ?_) (arr_get (at8 (at8 (at8 (at8 (at8 (at_succ (at_succ (at_succ (at_succ (at_succ (at_succ (at_succ at_zero))))))))))))) (by kernel_rfl) (by kernel_rfl) (by kernel_rfl) (fun _ _ _ h => h) (Or.inl ⟨by rfl, ?_⟩) (by assumption) ?_
        rotate_left
        · intro w9 hSw
          try dsimp only at hSw
          go_simp
          all_goals with_reducible rfl
        try simp only [Act.put]
        try simp only [List.setIfInBounds_toArray]
        try simp only [List.set_cons_succ]
        try simp only [List.set_cons_zero]
        refine wpAnyH_take (i := 48) (v := ?_) (arr_get (at8 (at8 (at8 (at8 (at8 (at8 at_zero))))))) (by kernel_rfl) (by kernel_rfl) (by kernel_rfl) (fun _ _ _ h => h) (Or.inl ⟨by rfl, ?_⟩) (by assumption) ?_
        rotate_left
        · intro w9 hSw
          try dsimp only at hSw
          go_simp
          all_goals with_reducible rfl
        try simp only [Act.put]
        try simp only [List.setIfInBounds_toArray]
        try simp only [List.set_cons_succ]
        try simp only [List.set_cons_zero]
        refine wpAnyH_take (i := 50) (v := ?_) (arr_get (at8 (at8 (at8 (at8 (at8 (at8 (at_succ (at_succ at_zero))))))))) (by kernel_rfl) (by kernel_rfl) (by kernel_rfl) (fun _ _ _ h => h) (Or.inl ⟨by rfl, ?_⟩) (by assumption) ?_
        rotate_left
        · intro w9 hSw
          try dsimp only at hSw
          go_simp
          all_goals with_reducible rfl
        try simp only [Act.put]
        try simp only [List.setIfInBounds_toArray]
        try simp only [List.set_cons_succ]
        try simp only [List.set_cons_zero]
        refine wpAnyH_ready (rs := [49]) (by kernel_rfl) (by simp) ?_
        refine AllReadyH.cons (arr_get (at8 (at8 (at8 (at8 (at8 (at8 (at_succ at_zero)))))))) (fun K hK => ?_) AllReadyH.nil
        go_simp
        go_at_call 18
        with_reducible refine (hT5.out _ (by assumption)).mono ?_
        rintro e w5 ⟨rfl, hb5⟩
        have hB5 := bchain (show Below W.heap.size W _ by assumption) hb5
        try go_wp2_with fail
        refine hK.out _ _ (by (try dsimp only); with_reducible exact hS.out _ hB5) (fun hHeld => ?_)
        clear hK K
        try simp only [Act.put]
        try simp only [List.setIfInBounds_toArray]
        try simp only [List.set_cons_succ]
        try simp only [List.set_cons_zero]
        refine wpAnyH_ready (rs := [51]) (by kernel_rfl) (by simp) ?_
        refine AllReadyH.cons (arr_get (at8 (at8 (at8 (at8 (at8 (at8 (at_succ (at_succ (at_succ at_zero)))))))))) (fun K hK => ?_) AllReadyH.nil
        go_simp
        go_at_call 19
        with_reducible refine (hT6.out _ (by assumption)).mono ?_
        rintro e w5 ⟨rfl, hb5⟩
        have hB5 := bchain (show Below W.heap.size W _ by assumption) hb5
        try go_wp2_with fail
        refine hK.out _ _ (by (try dsimp only); with_reducible exact hS.out _ hB5) (fun hHeld => ?_)
        clear hK K
        try simp only [Act.put]
        try simp only [List.setIfInBounds_toArray]
        try simp only [List.set_cons_succ]
        try simp only [List.set_cons_zero]
        refine wpAnyH_take (i := 52) (v := ?_) (arr_get (at8 (at8 (at8 (at8 (at8 (at8 (at_succ (at_succ (at_succ (at_succ at_zero))))))))))) (by kernel_rfl) (by kernel_rfl) (by kernel_rfl) (fun _ _ _ h => h) (Or.inl ⟨by rfl, ?_⟩) (by assumption) ?_
        rotate_left
        · intro w9 hSw
          try dsimp only at hSw
          go_simp
          all_goals with_reducible rfl
        try simp only [Act.put]
        try simp only [List.setIfInBounds_toArray]
        try simp only [List.set_cons_succ]
        try simp only [List.set_cons_zero]
        refine wpAnyH_take (i := 53) (v := ?_) (arr_get (at8 (at8 (at8 (at8 (at8 (at8 (at_succ (at_succ (at_succ (at_succ (at_succ at_zero)))))))))))) (by kernel_rfl) (by kernel_rfl) (by kernel_rfl) (fun _ _ _ h => h) (Or.inl ⟨by rfl, ?_⟩) (by assumption) ?_
        rotate_left
        · intro w9 hSw
          try dsimp only at hSw
          go_simp
          all_goals with_reducible rfl
        try simp only [Act.put]
        try simp only [List.setIfInBounds_toArray]
        try simp only [List.set_cons_succ]
        try simp only [List.set_cons_zero]
        refine wpAnyH_take (i := 54) (v := ?_) (arr_get (at8 (at8 (at8 (at8 (at8 (at8 (at_succ (at_succ (at_succ (at_succ (at_succ (at_succ at_zero))))))))))))) (by kernel_rfl) (by kernel_rfl) (by kernel_rfl) (fun _ _ _ h => h) (Or.inl ⟨by rfl, ?_⟩) (by assumption) ?_
        rotate_left
        · intro w9 hSw
          try dsimp only at hSw
          go_simp
          all_goals with_reducible rfl
        try simp only [Act.put]
        try simp only [List.setIfInBounds_toArray]
        try simp only [List.set_cons_succ]
        try simp only [List.set_cons_zero]
        refine wpAnyH_take (i := 55) (v := ?_) (arr_get (at8 (at8 (at8 (at8 (at8 (at8 (at_succ (at_succ (at_succ (at_succ (at_succ (at_succ (at_succ at_zero)))))))))))))) (by kernel_rfl) (by kernel_rfl) (by kernel_rfl) (fun _ _ _ h => h) (Or.inl ⟨by rfl, ?_⟩) (by assumption) ?_
        rotate_left
        · intro w9 hSw
          try dsimp only at hSw
          go_simp
          all_goals with_reducible rfl
        try simp only [Act.put]
        try simp only [List.setIfInBounds_toArray]
        try simp only [List.set_cons_succ]
        try simp only [List.set_cons_zero]
        refine wpAnyH_take (i := 57) (v := ?_) (arr_get (at8 (at8 (at8 (at8 (at8 (at8 (at8 (at_succ at_zero))))))))) (by kernel_rfl) (by kernel_rfl) (by kernel_rfl) (fun _ _ _ h => h) (Or.inl ⟨by rfl, ?_⟩) (by assumption) ?_
        rotate_left
        · intro w9 hSw
          try dsimp only at hSw
          go_simp
          all_goals with_reducible rfl
        try simp only [Act.put]
        try simp only [List.setIfInBounds_toArray]
        try simp only [List.set_cons_succ]
        try simp only [List.set_cons_zero]
        refine wpAnyH_ready (rs := [56]) (by kernel_rfl) (by simp) ?_
        refine AllReadyH.cons (arr_get (at8 (at8 (at8 (at8 (at8 (at8 (at8 at_zero)))))))) (fun K hK => ?_) AllReadyH.nil
        go_simp
        go_at_call 20
        with_reducible refine (hT7.out _ (by assumption)).mono ?_
        rintro e w5 ⟨rfl, hb5⟩
        have hB5 := bchain (show Below W.heap.size W _ by assumption) hb5
        try go_wp2_with fail
        refine hK.out _ _ (by (try dsimp only); with_reducible exact hS.out _ hB5) (fun hHeld => ?_)
        clear hK K
        try simp only [Act.put]
        try simp only [List.setIfInBounds_toArray]
        try simp only [List.set_cons_succ]
        try simp only [List.set_cons_zero]
        refine wpAnyH_ready (rs := [58]) (by kernel_rfl) (by simp) ?_
        refine AllReadyH.cons (arr_get (at8 (at8 (at8 (at8 (at8 (at8 (at8 (at_succ (at_succ at_zero)))))))))) (fun K hK => ?_) AllReadyH.nil
        go_simp
        go_at_call 21
        with_reducible refine (hT8.out _ (by assumption)).mono ?_
        rintro e w5 ⟨rfl, hb5⟩
        have hB5 := bchain (show Below W.heap.size W _ by assumption) hb5
        try go_wp2_with fail
        refine hK.out _ _ (by (try dsimp only); with_reducible exact hS.out _ hB5) (fun hHeld => ?_)
        clear hK K
        try simp only [Act.put]
        try simp only [List.setIfInBounds_toArray]
        try simp only [List.set_cons_succ]
        try simp only [List.set_cons_zero]
        refine wpAnyH_take (i := 59) (v := ?_) (arr_get (at8 (at8 (at8 (at8 (at8 (at8 (at8 (at_succ (at_succ (at_succ at_zero))))))))))) (by kernel_rfl) (by kernel_rfl) (by kernel_rfl) (fun _ _ _ h => h) (Or.inl ⟨by rfl, ?_⟩) (by assumption) ?_
        rotate_left
        · intro w9 hSw
          try dsimp only at hSw
          go_simp
          all_goals with_reducible rfl
        try simp only [Act.put]
        try simp only [List.setIfInBounds_toArray]
        try simp only [List.set_cons_succ]
        try simp only [List.set_cons_zero]
        refine wpAnyH_take (i := 60) (v := ?_) (arr_get (at8 (at8 (at8 (at8 (at8 (at8 (at8 (at_succ (at_succ (at_succ (at_succ at_zero)))))))))))) (by kernel_rfl) (by kernel_rfl) (by kernel_rfl) (fun _ _ _ h => h) (Or.inl ⟨by rfl, ?_⟩) (by assumption) ?_
        rotate_left
        · intro w9 hSw
          try dsimp only at hSw
          go_simp
          all_goals with_reducible rfl
        try simp only [Act.put]
        try simp only [List.setIfInBounds_toArray]
        try simp only [List.set_cons_succ]
        try simp only [List.set_cons_zero]
        refine wpAnyH_take (i := 61) (v := ?_) (arr_get (at8 (at8 (at8 (at8 (at8 (at8 (at8 (at_succ (at_succ (at_succ (at_succ (at_succ at_zero))))))))))))) (by kernel_rfl) (by kernel_rfl) (by kernel_rfl) (fun _ _ _ h => h) (Or.inl ⟨by rfl, ?_⟩) (by assumption) ?_
        rotate_left
        · intro w9 hSw
          try dsimp only at hSw
          go_simp
          all_goals with_reducible rfl
        try simp only [Act.put]
        try simp only [List.setIfInBounds_toArray]
        try simp only [List.set_cons_succ]
        try simp only [List.set_cons_zero]
        refine wpAnyH_take (i := 62) (v := ?_) (arr_get (at8 (at8 (at8 (at8 (at8 (at8 (at8 (at_succ (at_succ (at_succ (at_succ (at_succ (at_succ at_zero)))))))))))))) (by kernel_rfl) (by kernel_rfl) (by kernel_rfl) (fun _ _ _ h => h) (Or.inl ⟨by rfl, ?_⟩) (by assumption) ?_
        rotate_left
        · intro w9 hSw
          try dsimp only at hSw
          go_simp
          all_goals with_reducible rfl
        try simp only [Act.put]
        try simp only [List.setIfInBounds_toArray]
        try simp only [List.set_cons_succ]
        try simp only [List.set_cons_zero]
        refine wpAnyH_take (i := 64) (v := ?_) (arr_get (at8 (at8 (at8 (at8 (at8 (at8 (at8 (at8 at_zero))))))))) (by kernel_rfl) (by kernel_rfl) (by kernel_rfl) (fun _ _ _ h => h) (Or.inl ⟨by rfl, ?_⟩) (by assumption) ?_
        rotate_left
        · intro w9 hSw
          try dsimp only at hSw
          go_simp
          all_goals with_reducible rfl
        try simp only [Act.put]
        try simp only [List.setIfInBounds_toArray]
        try simp only [List.set_cons_succ]
        try simp only [List.set_cons_zero]
        refine wpAnyH_ready (rs := [63]) (by kernel_rfl) (by simp) ?_
        refine AllReadyH.cons (arr_get (at8 (at8 (at8 (at8 (at8 (at8 (at8 (at_succ (at_succ (at_succ (at_succ (at_succ (at_succ (at_succ at_zero))))))))))))))) (fun K hK => ?_) AllReadyH.nil
        go_simp
        go_at_call 22
        with_reducible refine (hT9.out _ (by assumption)).mono ?_
        rintro e w5 ⟨rfl, hb5⟩
        have hB5 := bchain (show Below W.heap.size W _ by assumption) hb5
        try go_wp2_with fail
        refine hK.out _ _ (by (try dsimp only); with_reducible exact hS.out _ hB5) (fun hHeld => ?_)
        clear hK K
        try simp only [Act.put]
        try simp only [List.setIfInBounds_toArray]
        try simp only [List.set_cons_succ]
        try simp only [List.set_cons_zero]
        refine wpAnyH_ready (rs := [65]) (by kernel_rfl) (by simp) ?_
        refine AllReadyH.cons (arr_get (at8 (at8 (at8 (at8 (at8 (at8 (at8 (at8 (at_succ at_zero)))))))))) (fun K hK => ?_) AllReadyH.nil
        go_simp
        go_at_call 16
        with_reducible refine (hT10.out _ (by assumption)).mono ?_
        rintro e w5 ⟨rfl, hb5⟩
        have hB5 := bchain (show Below W.heap.size W _ by assumption) hb5
        try go_wp2_with fail
        refine hK.out _ _ (by (try dsimp only); with_reducible exact hS.out _ hB5) (fun hHeld => ?_)
        clear hK K
        try simp only [Act.put]
        try simp only [List.setIfInBounds_toArray]
        try simp only [List.set_cons_succ]
        try simp only [List.set_cons_zero]
        refine wpAnyH_take (i := 66) (v := ?_) (arr_get (at8 (at8 (at8 (at8 (at8 (at8 (at8 (at8 (at_succ (at_succ at_zero))))))))))) (by kernel_rfl) (by kernel_rfl) (by kernel_rfl) (fun _ _ _ h => h) (Or.inl ⟨by rfl, ?_⟩) (by assumption) ?_
        rotate_left
        · intro w9 hSw
          try dsimp only at hSw
          go_simp
          all_goals with_reducible rfl
        try simp only [Act.put]
        try simp only [List.setIfInBounds_toArray]
        try simp only [List.set_cons_succ]
        try simp only [List.set_cons_zero]
        refine wpAnyH_take (i := 67) (v := ?_) (arr_get (at8 (at8 (at8 (at8 (at8 (at8 (at8 (at8 (at_succ (at_succ (at_succ at_zero)))))))))))) (by kernel_rfl) (by kernel_rfl) (by kernel_rfl) (fun _ _ _ h => h) (Or.inl ⟨by rfl, ?_⟩) (by assumption) ?_
        rotate_left
        · intro w9 hSw
          try dsimp only at hSw
          go_simp
          all_goals with_reducible rfl
        try simp only [Act.put]
        try simp only [List.setIfInBounds_toArray]
        try simp only [List.set_cons_succ]
        try simp only [List.set_cons_zero]
        refine wpAnyH_done (by kernel_rfl) ?_ _
        refine NoPanic.normal ?_
        go_wp2_with fail
        go_meet
        exact hid ⟨rfl, by assumption⟩
      · clear hkb
        have hiE : t.toList.isEmpty = false := by rw [tl_empty]; exact decide_eq_false hte
        have hkq : ((kinR (tl t) : Int) == k) = false := by simpa using hkk
        have hS : Hid (∀ w9 : World, Below W.heap.size W w9 → Below W.heap.size W w9 ∧ w9.cell? ⟨w1.heap.size, 0, none⟩ = some (.int .i64 k) ∧ w9.cell? ⟨w1.heap.size, 1, none⟩ = some (.slice s.A p.length s.c) ∧ w9.cell? ⟨w1.heap.size, 2, none⟩ = some (.slice s.A2 m.length s.c2) ∧ w9.cell? ⟨w1.heap.size, 3, none⟩ = some (.slice s.A3 y.length s.c3) ∧ w9.cell? ⟨w1.heap.size, 4, none⟩ = some (.slice s.A4 q1.length s.c4) ∧ w9.cell? ⟨w1.heap.size, 5, none⟩ = some (.slice s.A5 q2.length s.c5) ∧ w9.cell? ⟨w3.heap.size, 0, none⟩ = some (.int .i64 k2) ∧ w9.cell? ⟨w3.heap.size, 1, none⟩ = some (.slice s2.A p2.length s2.c) ∧ w9.cell? ⟨w3.heap.size, 2, none⟩ = some (.slice s2.A2 m2.length s2.c2) ∧ w9.cell? ⟨w3.heap.size, 3, none⟩ = some (.slice s2.A3 y2.length s2.c3) ∧ w9.cell? ⟨w3.heap.size, 4, none⟩ = some (.slice s2.A4 r1.length s2.c4) ∧ w9.cell? ⟨w3.heap.size, 5, none⟩ = some (.slice s2.A5 r2.length s2.c5) ∧ w9.cell? ⟨w7.heap.size, 0, none⟩ = some (.int .i64 k3) ∧ w9.cell? ⟨w7.heap.size, 1, none⟩ = some (.slice s3.A p3.length s3.c) ∧ w9.cell? ⟨w7.heap.size, 2, none⟩ = some (.slice s3.A2 m3.length s3.c2) ∧ w9.cell? ⟨w7.heap.size, 3, none⟩ = some (.slice s3.A3 y3.length s3.c3) ∧ w9.cell? ⟨w7.heap.size, 4, none⟩ = some (.slice s3.A4 a3.length s3.c4) ∧ w9.cell? ⟨w7.heap.size, 5, none⟩ = some (.slice s3.A5 b3.length s3.c5) ∧ w9.cell? ⟨w8.heap.size, 0, none⟩ = some (.int .i64 k3) ∧ w9.cell? ⟨w8.heap.size, 1, none⟩ = some (.slice s4.A p3.length s4.c) ∧ w9.cell? ⟨w8.heap.size, 2, none⟩ = some (.slice s4.A2 m3.length s4.c2) ∧ w9.cell? ⟨w8.heap.size, 3, none⟩ = some (.slice s4.A3 y3.length s4.c3) ∧ w9.cell? ⟨w8.heap.size, 4, none⟩ = some (.slice s4.A4 a3.length s4.c4) ∧ w9.cell? ⟨w8.heap.size, 5, none⟩ = some (.slice s4.A5 b3.length s4.c5)) := by
          refine hid fun w9 b => ?_
          obtain ⟨⟨x10, x11, x12, x13, x14, x15⟩, -⟩ := zc (X1.out.below b X1.out.lt)
          obtain ⟨⟨x20, x21, x22, x23, x24, x25⟩, -⟩ := zc (X2.out.below b X2.out.lt)
          obtain ⟨⟨x30, x31, x32, x33, x34, x35⟩, -⟩ := zc (X3.out.below b X3.out.lt)
          obtain ⟨⟨x40, x41, x42, x43, x44, x45⟩, -⟩ := zc (X4.out.below b X4.out.lt)
          exact ⟨b, x10, x11, x12, x13, x14, x15, x20, x21, x22, x23, x24, x25, x30, x31, x32, x33, x34, x35, x40, x41, x42, x43, x44, x45⟩
        clear l1 l2 l3 l4
        have hT1 : Hid (∀ w9 : World, Below W.heap.size W w9 → Calls Tryz.prog 15 #[.agg #[.int .i64 k, .slice s.A p.length s.c, .slice s.A2 m.length s.c2, .slice s.A3 y.length s.c3, .slice s.A4 q1.length s.c4, .slice s.A5 q2.length s.c5]] w9 fun e w' => e = .returned (.string t) ∧ Below w9.heap.size w9 w') := by
          refine hid fun w9 b => ?_
          have h := specNotationText_any k p m y q1 q2 s w9 SM1.out (R1.out.below b)
          rw [HT.out] at h
          exact h
        have hT2 : Hid (∀ w9 : World, Below W.heap.size W w9 → Calls Tryz.prog 16 #[.string t] w9 fun e w' => e = .returned (.int .i64 (kinR (tl t) : Nat)) ∧ Below w9.heap.size w9 w') := by
          refine hid fun w9 b => ?_
          refine (specKindOfText_any t w9 (by omega)).mono ?_
          rintro e w6 ⟨h1, rfl⟩
          exact ⟨h1, Below.refl _ _⟩
        have hT4 : Hid (∀ w9 : World, Below W.heap.size W w9 → Calls Tryz.prog 17 #[.agg #[.int .i64 k3, .slice s3.A p3.length s3.c, .slice s3.A2 m3.length s3.c2, .slice s3.A3 y3.length s3.c3, .slice s3.A4 a3.length s3.c4, .slice s3.A5 b3.length s3.c5], .agg #[.int .i64 k3, .slice s4.A p3.length s4.c, .slice s4.A2 m3.length s4.c2, .slice s4.A3 y3.length s4.c3, .slice s4.A4 a3.length s4.c4, .slice s4.A5 b3.length s4.c5]] w9 fun e w' => e = .returned (.bool true) ∧ Below w9.heap.size w9 w') := by
          refine hid fun w9 b => ?_
          have h := SameNotation_same k3 p3 m3 y3 a3 b3 s3 s4 w9 SM3.out (R3.out.below b) (R4.out.below b)
          exact h
        have hT5 : Hid (∀ w9 : World, Below W.heap.size W w9 → Calls Tryz.prog 18 #[.int .i64 kk] w9 fun e w' => e = .returned (.string (rNoteName kk)) ∧ Below w9.heap.size w9 w') := by
          refine hid fun w9 b => ?_
          have h := NoteName_any kk w9
          exact h
        have hT6 : Hid (∀ w9 : World, Below W.heap.size W w9 → Calls Tryz.prog 19 #[.int .i64 kk] w9 fun e w' => e = .returned (.string (rNoteName kk)) ∧ Below w9.heap.size w9 w') := by
          refine hid fun w9 b => ?_
          have h := specNoteName_any kk w9
          exact h
        have hT7 : Hid (∀ w9 : World, Below W.heap.size W w9 → Calls Tryz.prog 20 #[.int .i64 ff] w9 fun e w' => e = .returned (.string (rFaultName ff)) ∧ Below w9.heap.size w9 w') := by
          refine hid fun w9 b => ?_
          have h := FaultName_any ff w9
          exact h
        have hT8 : Hid (∀ w9 : World, Below W.heap.size W w9 → Calls Tryz.prog 21 #[.int .i64 ff] w9 fun e w' => e = .returned (.string (rFaultName ff)) ∧ Below w9.heap.size w9 w') := by
          refine hid fun w9 b => ?_
          have h := specFaultName_any ff w9
          exact h
        have hT9 : Hid (∀ w9 : World, Below W.heap.size W w9 → Calls Tryz.prog 22 #[.string U] w9 fun e w' => e = .returned (.int .i64 (kinR (tl U) : Nat)) ∧ Below w9.heap.size w9 w') := by
          refine hid fun w9 b => ?_
          refine (KindOfText_any U w9 (by omega)).mono ?_
          rintro e w6 ⟨h1, rfl⟩
          exact ⟨h1, Below.refl _ _⟩
        have hT10 : Hid (∀ w9 : World, Below W.heap.size W w9 → Calls Tryz.prog 16 #[.string U] w9 fun e w' => e = .returned (.int .i64 (kinR (tl U) : Nat)) ∧ Below w9.heap.size w9 w') := by
          refine hid fun w9 b => ?_
          refine (specKindOfText_any U w9 (by omega)).mono ?_
          rintro e w6 ⟨h1, rfl⟩
          exact ⟨h1, Below.refl _ _⟩
        have hBd : Below W.heap.size W W.drew := (Below.refl _ _).drew
        clear X1 R1 X2 R2 X3 R3 X4 R4
        refine wp_region_noPanic ?_
        simp only [List.append_eq, List.cons_append, List.nil_append]
        refine wp_region_held_drew (S := fun w' => Below W.heap.size W w' ∧ w'.cell? ⟨w1.heap.size, 0, none⟩ = some (.int .i64 k) ∧ w'.cell? ⟨w1.heap.size, 1, none⟩ = some (.slice s.A p.length s.c) ∧ w'.cell? ⟨w1.heap.size, 2, none⟩ = some (.slice s.A2 m.length s.c2) ∧ w'.cell? ⟨w1.heap.size, 3, none⟩ = some (.slice s.A3 y.length s.c3) ∧ w'.cell? ⟨w1.heap.size, 4, none⟩ = some (.slice s.A4 q1.length s.c4) ∧ w'.cell? ⟨w1.heap.size, 5, none⟩ = some (.slice s.A5 q2.length s.c5) ∧ w'.cell? ⟨w3.heap.size, 0, none⟩ = some (.int .i64 k2) ∧ w'.cell? ⟨w3.heap.size, 1, none⟩ = some (.slice s2.A p2.length s2.c) ∧ w'.cell? ⟨w3.heap.size, 2, none⟩ = some (.slice s2.A2 m2.length s2.c2) ∧ w'.cell? ⟨w3.heap.size, 3, none⟩ = some (.slice s2.A3 y2.length s2.c3) ∧ w'.cell? ⟨w3.heap.size, 4, none⟩ = some (.slice s2.A4 r1.length s2.c4) ∧ w'.cell? ⟨w3.heap.size, 5, none⟩ = some (.slice s2.A5 r2.length s2.c5) ∧ w'.cell? ⟨w7.heap.size, 0, none⟩ = some (.int .i64 k3) ∧ w'.cell? ⟨w7.heap.size, 1, none⟩ = some (.slice s3.A p3.length s3.c) ∧ w'.cell? ⟨w7.heap.size, 2, none⟩ = some (.slice s3.A2 m3.length s3.c2) ∧ w'.cell? ⟨w7.heap.size, 3, none⟩ = some (.slice s3.A3 y3.length s3.c3) ∧ w'.cell? ⟨w7.heap.size, 4, none⟩ = some (.slice s3.A4 a3.length s3.c4) ∧ w'.cell? ⟨w7.heap.size, 5, none⟩ = some (.slice s3.A5 b3.length s3.c5) ∧ w'.cell? ⟨w8.heap.size, 0, none⟩ = some (.int .i64 k3) ∧ w'.cell? ⟨w8.heap.size, 1, none⟩ = some (.slice s4.A p3.length s4.c) ∧ w'.cell? ⟨w8.heap.size, 2, none⟩ = some (.slice s4.A2 m3.length s4.c2) ∧ w'.cell? ⟨w8.heap.size, 3, none⟩ = some (.slice s4.A3 y3.length s4.c3) ∧ w'.cell? ⟨w8.heap.size, 4, none⟩ = some (.slice s4.A4 a3.length s4.c4) ∧ w'.cell? ⟨w8.heap.size, 5, none⟩ = some (.slice s4.A5 b3.length s4.c5)) (by kernel_rfl) ?_ (fun hHeld => ?_)
        · with_reducible exact hS.out _ hBd
        refine wpAnyH_take (i := 0) (v := ?_) (arr_get at_zero) (by kernel_rfl) (by kernel_rfl) (by kernel_rfl) (fun _ _ _ h => h) (Or.inl ⟨by rfl, ?_⟩) (by assumption) ?_
        rotate_left
        · intro w9 hSw
          try dsimp only at hSw
          go_simp
          all_goals with_reducible rfl
        try simp only [Act.put]
        try simp only [List.setIfInBounds_toArray]
        try simp only [List.set_cons_succ]
        try simp only [List.set_cons_zero]
        refine wpAnyH_take (i := 1) (v := ?_) (arr_get (at_succ at_zero)) (by kernel_rfl) (by kernel_rfl) (by kernel_rfl) (fun _ _ _ h => h) (Or.inl ⟨by rfl, ?_⟩) (by assumption) ?_
        rotate_left
        · intro w9 hSw
          try dsimp only at hSw
          go_simp
          all_goals with_reducible rfl
        try simp only [Act.put]
        try simp only [List.setIfInBounds_toArray]
        try simp only [List.set_cons_succ]
        try simp only [List.set_cons_zero]
        refine wpAnyH_ready (rs := [2]) (by kernel_rfl) (by simp) ?_
        refine AllReadyH.cons (arr_get (at_succ (at_succ at_zero))) (fun K hK => ?_) AllReadyH.nil
        go_simp
        go_at_call 15
        with_reducible refine (hT1.out _ (by assumption)).mono ?_
        rintro e w5 ⟨rfl, hb5⟩
        have hB5 := bchain (show Below W.heap.size W _ by assumption) hb5
        try go_wp2_with fail
        refine hK.out _ _ (by (try dsimp only); with_reducible exact hS.out _ hB5) (fun hHeld => ?_)
        clear hK K
        try simp only [Act.put]
        try simp only [List.setIfInBounds_toArray]
        try simp only [List.set_cons_succ]
        try simp only [List.set_cons_zero]
        refine wpAnyH_take (i := 3) (v := ?_) (arr_get (at_succ (at_succ (at_succ at_zero)))) (by kernel_rfl) (by kernel_rfl) (by kernel_rfl) (fun _ _ _ h => h) (Or.inl ⟨by rfl, ?_⟩) (by assumption) ?_
        rotate_left
        · intro w9 hSw
          try dsimp only at hSw
          go_simp
          all_goals with_reducible rfl
        try simp only [Act.put]
        try simp only [List.setIfInBounds_toArray]
        try simp only [List.set_cons_succ]
        try simp only [List.set_cons_zero]
        refine wpAnyH_take (i := 4) (v := ?_) (arr_get (at_succ (at_succ (at_succ (at_succ at_zero))))) (by kernel_rfl) (by kernel_rfl) (by kernel_rfl) (fun _ _ _ h => h) (Or.inl ⟨by rfl, ?_⟩) (by assumption) ?_
        rotate_left
        · intro w9 hSw
          try dsimp only at hSw
          go_simp
          all_goals with_reducible rfl
        try simp only [Act.put]
        try simp only [List.setIfInBounds_toArray]
        try simp only [List.set_cons_succ]
        try simp only [List.set_cons_zero]
        refine wpAnyH_take (i := 5) (v := ?_) (arr_get (at_succ (at_succ (at_succ (at_succ (at_succ at_zero)))))) (by kernel_rfl) (by kernel_rfl) (by kernel_rfl) (fun _ _ _ h => h) (Or.inl ⟨by rfl, ?_⟩) (by assumption) ?_
        rotate_left
        · intro w9 hSw
          try dsimp only at hSw
          go_simp
          all_goals with_reducible rfl
        try simp only [Act.put]
        try simp only [List.setIfInBounds_toArray]
        try simp only [List.set_cons_succ]
        try simp only [List.set_cons_zero]
        refine wpAnyH_take (i := 6) (v := ?_) (arr_get (at_succ (at_succ (at_succ (at_succ (at_succ (at_succ at_zero))))))) (by kernel_rfl) (by kernel_rfl) (by kernel_rfl) (fun _ _ _ h => h) (Or.inl ⟨by rfl, ?_⟩) (by assumption) ?_
        rotate_left
        · intro w9 hSw
          try dsimp only at hSw
          go_simp
          all_goals with_reducible rfl
        try simp only [Act.put]
        try simp only [List.setIfInBounds_toArray]
        try simp only [List.set_cons_succ]
        try simp only [List.set_cons_zero]
        refine wpAnyH_take (i := 7) (v := ?_) (arr_get (at_succ (at_succ (at_succ (at_succ (at_succ (at_succ (at_succ at_zero)))))))) (by kernel_rfl) (by kernel_rfl) (by kernel_rfl) (fun _ _ _ h => h) (Or.inl ⟨by rfl, ?_⟩) (by assumption) ?_
        rotate_left
        · intro w9 hSw
          try dsimp only at hSw
          go_simp
          all_goals with_reducible rfl
        try simp only [Act.put]
        try simp only [List.setIfInBounds_toArray]
        try simp only [List.set_cons_succ]
        try simp only [List.set_cons_zero]
        refine wpAnyH_take (i := 8) (v := ?_) (arr_get (at8 at_zero)) (by kernel_rfl) (by kernel_rfl) (by kernel_rfl) (fun _ _ _ h => h) (Or.inl ⟨by rfl, ?_⟩) (by assumption) ?_
        rotate_left
        · intro w9 hSw
          try dsimp only at hSw
          go_simp
          all_goals with_reducible rfl
        try simp only [Act.put]
        try simp only [List.setIfInBounds_toArray]
        try simp only [List.set_cons_succ]
        try simp only [List.set_cons_zero]
        refine wpAnyH_take (i := 9) (v := ?_) (arr_get (at8 (at_succ at_zero))) (by kernel_rfl) (by kernel_rfl) (by kernel_rfl) (fun _ _ _ h => h) (Or.inl ⟨by rfl, ?_⟩) (by assumption) ?_
        rotate_left
        · intro w9 hSw
          try dsimp only at hSw
          go_simp
          all_goals with_reducible rfl
        try simp only [Act.put]
        try simp only [List.setIfInBounds_toArray]
        try simp only [List.set_cons_succ]
        try simp only [List.set_cons_zero]
        refine wpAnyH_take (i := 10) (v := ?_) (arr_get (at8 (at_succ (at_succ at_zero)))) (by kernel_rfl) (by kernel_rfl) (by kernel_rfl) (fun _ _ _ h => h) (Or.inl ⟨by rfl, ?_⟩) (by assumption) ?_
        rotate_left
        · intro w9 hSw
          try dsimp only at hSw
          go_simp
          all_goals with_reducible rfl
        try simp only [Act.put]
        try simp only [List.setIfInBounds_toArray]
        try simp only [List.set_cons_succ]
        try simp only [List.set_cons_zero]
        refine wpAnyH_take (i := 11) (v := ?_) (arr_get (at8 (at_succ (at_succ (at_succ at_zero))))) (by kernel_rfl) (by kernel_rfl) (by kernel_rfl) (fun _ _ _ h => h) (Or.inl ⟨by rfl, ?_⟩) (by assumption) ?_
        rotate_left
        · intro w9 hSw
          try dsimp only at hSw
          go_simp
          all_goals with_reducible rfl
        try simp only [Act.put]
        try simp only [List.setIfInBounds_toArray]
        try simp only [List.set_cons_succ]
        try simp only [List.set_cons_zero]
        refine wpAnyH_take (i := 12) (v := ?_) (arr_get (at8 (at_succ (at_succ (at_succ (at_succ at_zero)))))) (by kernel_rfl) (by kernel_rfl) (by kernel_rfl) (fun _ _ _ h => h) (Or.inl ⟨by rfl, ?_⟩) (by assumption) ?_
        rotate_left
        · intro w9 hSw
          try dsimp only at hSw
          go_simp
          all_goals with_reducible rfl
        try simp only [Act.put]
        try simp only [List.setIfInBounds_toArray]
        try simp only [List.set_cons_succ]
        try simp only [List.set_cons_zero]
        refine wpAnyH_take (i := 13) (v := ?_) (arr_get (at8 (at_succ (at_succ (at_succ (at_succ (at_succ at_zero))))))) (by kernel_rfl) (by kernel_rfl) (by kernel_rfl) (fun _ _ _ h => h) (Or.inl ⟨by rfl, ?_⟩) (by assumption) ?_
        rotate_left
        · intro w9 hSw
          try dsimp only at hSw
          go_simp
          all_goals with_reducible rfl
        try simp only [Act.put]
        try simp only [List.setIfInBounds_toArray]
        try simp only [List.set_cons_succ]
        try simp only [List.set_cons_zero]
        refine wpAnyH_take (i := 15) (v := ?_) (arr_get (at8 (at_succ (at_succ (at_succ (at_succ (at_succ (at_succ (at_succ at_zero))))))))) (by kernel_rfl) (by kernel_rfl) (by kernel_rfl) (fun _ _ _ h => h) (Or.inl ⟨by rfl, ?_⟩) (by assumption) ?_
        rotate_left
        · intro w9 hSw
          try dsimp only at hSw
          go_simp
          all_goals with_reducible rfl
        try simp only [Act.put]
        try simp only [List.setIfInBounds_toArray]
        try simp only [List.set_cons_succ]
        try simp only [List.set_cons_zero]
        refine wpAnyH_take (i := 16) (v := ?_) (arr_get (at8 (at8 at_zero))) (by kernel_rfl) (by kernel_rfl) (by kernel_rfl) (fun _ _ _ h => h) (Or.inl ⟨by rfl, ?_⟩) (by assumption) ?_
        rotate_left
        · intro w9 hSw
          try dsimp only at hSw
          go_simp
          all_goals with_reducible rfl
        try simp only [Act.put]
        try simp only [List.setIfInBounds_toArray]
        try simp only [List.set_cons_succ]
        try simp only [List.set_cons_zero]
        refine wpAnyH_ready (rs := [14]) (by kernel_rfl) (by simp) ?_
        refine AllReadyH.cons (arr_get (at8 (at_succ (at_succ (at_succ (at_succ (at_succ (at_succ at_zero)))))))) (fun K hK => ?_) AllReadyH.nil
        go_simp
        go_at_call 16
        with_reducible refine (hT2.out _ (by assumption)).mono ?_
        rintro e w5 ⟨rfl, hb5⟩
        have hB5 := bchain (show Below W.heap.size W _ by assumption) hb5
        try go_wp2_with fail
        refine hK.out _ _ (by (try dsimp only); with_reducible exact hS.out _ hB5) (fun hHeld => ?_)
        clear hK K
        try simp only [Act.put]
        try simp only [List.setIfInBounds_toArray]
        try simp only [List.set_cons_succ]
        try simp only [List.set_cons_zero]
        refine wpAnyH_take (i := 17) (v := ?_) (arr_get (at8 (at8 (at_succ at_zero)))) (by kernel_rfl) (by kernel_rfl) (by kernel_rfl) (fun _ _ _ h => h) (Or.inl ⟨by rfl, ?_⟩) (by assumption) ?_
        rotate_left
        · intro w9 hSw
          try dsimp only at hSw
          go_simp
          all_goals with_reducible rfl
        try simp only [Act.put]
        try simp only [List.setIfInBounds_toArray]
        try simp only [List.set_cons_succ]
        try simp only [List.set_cons_zero]
        refine wpAnyH_take (i := 18) (v := ?_) (arr_get (at8 (at8 (at_succ (at_succ at_zero))))) (by kernel_rfl) (by kernel_rfl) (by kernel_rfl) (fun _ _ _ h => h) (Or.inl ⟨by rfl, ?_⟩) (by assumption) ?_
        rotate_left
        · intro w9 hSw
          try dsimp only at hSw
          go_simp
          all_goals with_reducible rfl
        try simp only [Act.put]
        try simp only [List.setIfInBounds_toArray]
        try simp only [List.set_cons_succ]
        try simp only [List.set_cons_zero]
        refine wpAnyH_take (i := 19) (v := ?_) (arr_get (at8 (at8 (at_succ (at_succ (at_succ at_zero)))))) (by kernel_rfl) (by kernel_rfl) (by kernel_rfl) (fun _ _ _ h => h) (Or.inl ⟨by rfl, ?_⟩) (by assumption) ?_
        rotate_left
        · intro w9 hSw
          try dsimp only at hSw
          go_simp
          all_goals with_reducible rfl
        try simp only [Act.put]
        try simp only [List.setIfInBounds_toArray]
        try simp only [List.set_cons_succ]
        try simp only [List.set_cons_zero]
        refine wpAnyH_take (i := 20) (v := undef) (arr_get (at8 (at8 (at_succ (at_succ (at_succ (at_succ at_zero))))))) (by kernel_rfl) (by kernel_rfl) (by kernel_rfl) (fun _ _ _ h => h) (Or.inr ⟨by rfl, rfl⟩) (by assumption) ?_
        try simp only [Act.put]
        try simp only [List.setIfInBounds_toArray]
        try simp only [List.set_cons_succ]
        try simp only [List.set_cons_zero]
        refine wpAnyH_take (i := 21) (v := undef) (arr_get (at8 (at8 (at_succ (at_succ (at_succ (at_succ (at_succ at_zero)))))))) (by kernel_rfl) (by kernel_rfl) (by kernel_rfl) (fun _ _ _ h => h) (Or.inr ⟨by rfl, rfl⟩) (by assumption) ?_
        try simp only [Act.put]
        try simp only [List.setIfInBounds_toArray]
        try simp only [List.set_cons_succ]
        try simp only [List.set_cons_zero]
        refine wpAnyH_ready (rs := [22]) (by kernel_rfl) (by simp) ?_
        refine AllReadyH.cons (arr_get (at8 (at8 (at_succ (at_succ (at_succ (at_succ (at_succ (at_succ at_zero))))))))) (fun K hK => ?_) AllReadyH.nil
        go_simp
        refine hK.out _ _ (by (try dsimp only); assumption) (fun hHeld => ?_)
        clear hK K
        try simp only [Act.put]
        try simp only [List.setIfInBounds_toArray]
        try simp only [List.set_cons_succ]
        try simp only [List.set_cons_zero]
        refine wpAnyH_take (i := 23) (v := undef) (arr_get (at8 (at8 (at_succ (at_succ (at_succ (at_succ (at_succ (at_succ (at_succ at_zero)))))))))) (by kernel_rfl) (by kernel_rfl) (by kernel_rfl) (fun _ _ _ h => h) (Or.inr ⟨by rfl, rfl⟩) (by assumption) ?_
        try simp only [Act.put]
        try simp only [List.setIfInBounds_toArray]
        try simp only [List.set_cons_succ]
        try simp only [List.set_cons_zero]
        refine wpAnyH_take (i := 24) (v := ?_) (arr_get (at8 (at8 (at8 at_zero)))) (by kernel_rfl) (by kernel_rfl) (by kernel_rfl) (fun _ _ _ h => h) (Or.inl ⟨by rfl, ?_⟩) (by assumption) ?_
        rotate_left
        · intro w9 hSw
          try dsimp only at hSw
          go_simp
          all_goals with_reducible rfl
        try simp only [Act.put]
        try simp only [List.setIfInBounds_toArray]
        try simp only [List.set_cons_succ]
        try simp only [List.set_cons_zero]
        refine wpAnyH_take (i := 25) (v := ?_) (arr_get (at8 (at8 (at8 (at_succ at_zero))))) (by kernel_rfl) (by kernel_rfl) (by kernel_rfl) (fun _ _ _ h => h) (Or.inl ⟨by rfl, ?_⟩) (by assumption) ?_
        rotate_left
        · intro w9 hSw
          try dsimp only at hSw
          go_simp
          all_goals with_reducible rfl
        try simp only [Act.put]
        try simp only [List.setIfInBounds_toArray]
        try simp only [List.set_cons_succ]
        try simp only [List.set_cons_zero]
        refine wpAnyH_take (i := 26) (v := ?_) (arr_get (at8 (at8 (at8 (at_succ (at_succ at_zero)))))) (by kernel_rfl) (by kernel_rfl) (by kernel_rfl) (fun _ _ _ h => h) (Or.inl ⟨by rfl, ?_⟩) (by assumption) ?_
        rotate_left
        · intro w9 hSw
          try dsimp only at hSw
          go_simp
          all_goals with_reducible rfl
        try simp only [Act.put]
        try simp only [List.setIfInBounds_toArray]
        try simp only [List.set_cons_succ]
        try simp only [List.set_cons_zero]
        refine wpAnyH_take (i := 27) (v := ?_) (arr_get (at8 (at8 (at8 (at_succ (at_succ (at_succ at_zero))))))) (by kernel_rfl) (by kernel_rfl) (by kernel_rfl) (fun _ _ _ h => h) (Or.inl ⟨by rfl, ?_⟩) (by assumption) ?_
        rotate_left
        · intro w9 hSw
          try dsimp only at hSw
          go_simp
          all_goals with_reducible rfl
        try simp only [Act.put]
        try simp only [List.setIfInBounds_toArray]
        try simp only [List.set_cons_succ]
        try simp only [List.set_cons_zero]
        refine wpAnyH_take (i := 28) (v := ?_) (arr_get (at8 (at8 (at8 (at_succ (at_succ (at_succ (at_succ at_zero)))))))) (by kernel_rfl) (by kernel_rfl) (by kernel_rfl) (fun _ _ _ h => h) (Or.inl ⟨by rfl, ?_⟩) (by assumption) ?_
        rotate_left
        · intro w9 hSw
          try dsimp only at hSw
          go_simp
          all_goals with_reducible rfl
        try simp only [Act.put]
        try simp only [List.setIfInBounds_toArray]
        try simp only [List.set_cons_succ]
        try simp only [List.set_cons_zero]
        refine wpAnyH_take (i := 29) (v := ?_) (arr_get (at8 (at8 (at8 (at_succ (at_succ (at_succ (at_succ (at_succ at_zero))))))))) (by kernel_rfl) (by kernel_rfl) (by kernel_rfl) (fun _ _ _ h => h) (Or.inl ⟨by rfl, ?_⟩) (by assumption) ?_
        rotate_left
        · intro w9 hSw
          try dsimp only at hSw
          go_simp
          all_goals with_reducible rfl
        try simp only [Act.put]
        try simp only [List.setIfInBounds_toArray]
        try simp only [List.set_cons_succ]
        try simp only [List.set_cons_zero]
        refine wpAnyH_take (i := 30) (v := ?_) (arr_get (at8 (at8 (at8 (at_succ (at_succ (at_succ (at_succ (at_succ (at_succ at_zero)))))))))) (by kernel_rfl) (by kernel_rfl) (by kernel_rfl) (fun _ _ _ h => h) (Or.inl ⟨by rfl, ?_⟩) (by assumption) ?_
        rotate_left
        · intro w9 hSw
          try dsimp only at hSw
          go_simp
          all_goals with_reducible rfl
        try simp only [Act.put]
        try simp only [List.setIfInBounds_toArray]
        try simp only [List.set_cons_succ]
        try simp only [List.set_cons_zero]
        refine wpAnyH_take (i := 31) (v := ?_) (arr_get (at8 (at8 (at8 (at_succ (at_succ (at_succ (at_succ (at_succ (at_succ (at_succ at_zero))))))))))) (by kernel_rfl) (by kernel_rfl) (by kernel_rfl) (fun _ _ _ h => h) (Or.inl ⟨by rfl, ?_⟩) (by assumption) ?_
        rotate_left
        · intro w9 hSw
          try dsimp only at hSw
          go_simp
          all_goals with_reducible rfl
        try simp only [Act.put]
        try simp only [List.setIfInBounds_toArray]
        try simp only [List.set_cons_succ]
        try simp only [List.set_cons_zero]
        refine wpAnyH_take (i := 32) (v := ?_) (arr_get (at8 (at8 (at8 (at8 at_zero))))) (by kernel_rfl) (by kernel_rfl) (by kernel_rfl) (fun _ _ _ h => h) (Or.inl ⟨by rfl, ?_⟩) (by assumption) ?_
        rotate_left
        · intro w9 hSw
          try dsimp only at hSw
          go_simp
          all_goals with_reducible rfl
        try simp only [Act.put]
        try simp only [List.setIfInBounds_toArray]
        try simp only [List.set_cons_succ]
        try simp only [List.set_cons_zero]
        refine wpAnyH_take (i := 33) (v := ?_) (arr_get (at8 (at8 (at8 (at8 (at_succ at_zero)))))) (by kernel_rfl) (by kernel_rfl) (by kernel_rfl) (fun _ _ _ h => h) (Or.inl ⟨by rfl, ?_⟩) (by assumption) ?_
        rotate_left
        · intro w9 hSw
          try dsimp only at hSw
          go_simp
          all_goals with_reducible rfl
        try simp only [Act.put]
        try simp only [List.setIfInBounds_toArray]
        try simp only [List.set_cons_succ]
        try simp only [List.set_cons_zero]
        refine wpAnyH_take (i := 34) (v := ?_) (arr_get (at8 (at8 (at8 (at8 (at_succ (at_succ at_zero))))))) (by kernel_rfl) (by kernel_rfl) (by kernel_rfl) (fun _ _ _ h => h) (Or.inl ⟨by rfl, ?_⟩) (by assumption) ?_
        rotate_left
        · intro w9 hSw
          try dsimp only at hSw
          go_simp
          all_goals with_reducible rfl
        try simp only [Act.put]
        try simp only [List.setIfInBounds_toArray]
        try simp only [List.set_cons_succ]
        try simp only [List.set_cons_zero]
        refine wpAnyH_take (i := 35) (v := ?_) (arr_get (at8 (at8 (at8 (at8 (at_succ (at_succ (at_succ at_zero)))))))) (by kernel_rfl) (by kernel_rfl) (by kernel_rfl) (fun _ _ _ h => h) (Or.inl ⟨by rfl, ?_⟩) (by assumption) ?_
        rotate_left
        · intro w9 hSw
          try dsimp only at hSw
          go_simp
          all_goals with_reducible rfl
        try simp only [Act.put]
        try simp only [List.setIfInBounds_toArray]
        try simp only [List.set_cons_succ]
        try simp only [List.set_cons_zero]
        refine wpAnyH_take (i := 36) (v := ?_) (arr_get (at8 (at8 (at8 (at8 (at_succ (at_succ (at_succ (at_succ at_zero))))))))) (by kernel_rfl) (by kernel_rfl) (by kernel_rfl) (fun _ _ _ h => h) (Or.inl ⟨by rfl, ?_⟩) (by assumption) ?_
        rotate_left
        · intro w9 hSw
          try dsimp only at hSw
          go_simp
          all_goals with_reducible rfl
        try simp only [Act.put]
        try simp only [List.setIfInBounds_toArray]
        try simp only [List.set_cons_succ]
        try simp only [List.set_cons_zero]
        refine wpAnyH_take (i := 37) (v := ?_) (arr_get (at8 (at8 (at8 (at8 (at_succ (at_succ (at_succ (at_succ (at_succ at_zero)))))))))) (by kernel_rfl) (by kernel_rfl) (by kernel_rfl) (fun _ _ _ h => h) (Or.inl ⟨by rfl, ?_⟩) (by assumption) ?_
        rotate_left
        · intro w9 hSw
          try dsimp only at hSw
          go_simp
          all_goals with_reducible rfl
        try simp only [Act.put]
        try simp only [List.setIfInBounds_toArray]
        try simp only [List.set_cons_succ]
        try simp only [List.set_cons_zero]
        refine wpAnyH_take (i := 38) (v := ?_) (arr_get (at8 (at8 (at8 (at8 (at_succ (at_succ (at_succ (at_succ (at_succ (at_succ at_zero))))))))))) (by kernel_rfl) (by kernel_rfl) (by kernel_rfl) (fun _ _ _ h => h) (Or.inl ⟨by rfl, ?_⟩) (by assumption) ?_
        rotate_left
        · intro w9 hSw
          try dsimp only at hSw
          go_simp
          all_goals with_reducible rfl
        try simp only [Act.put]
        try simp only [List.setIfInBounds_toArray]
        try simp only [List.set_cons_succ]
        try simp only [List.set_cons_zero]
        refine wpAnyH_take (i := 39) (v := ?_) (arr_get (at8 (at8 (at8 (at8 (at_succ (at_succ (at_succ (at_succ (at_succ (at_succ (at_succ at_zero)))))))))))) (by kernel_rfl) (by kernel_rfl) (by kernel_rfl) (fun _ _ _ h => h) (Or.inl ⟨by rfl, ?_⟩) (by assumption) ?_
        rotate_left
        · intro w9 hSw
          try dsimp only at hSw
          go_simp
          all_goals with_reducible rfl
        try simp only [Act.put]
        try simp only [List.setIfInBounds_toArray]
        try simp only [List.set_cons_succ]
        try simp only [List.set_cons_zero]
        refine wpAnyH_take (i := 40) (v := ?_) (arr_get (at8 (at8 (at8 (at8 (at8 at_zero)))))) (by kernel_rfl) (by kernel_rfl) (by kernel_rfl) (fun _ _ _ h => h) (Or.inl ⟨by rfl, ?_⟩) (by assumption) ?_
        rotate_left
        · intro w9 hSw
          try dsimp only at hSw
          go_simp
          all_goals with_reducible rfl
        try simp only [Act.put]
        try simp only [List.setIfInBounds_toArray]
        try simp only [List.set_cons_succ]
        try simp only [List.set_cons_zero]
        refine wpAnyH_take (i := 41) (v := ?_) (arr_get (at8 (at8 (at8 (at8 (at8 (at_succ at_zero))))))) (by kernel_rfl) (by kernel_rfl) (by kernel_rfl) (fun _ _ _ h => h) (Or.inl ⟨by rfl, ?_⟩) (by assumption) ?_
        rotate_left
        · intro w9 hSw
          try dsimp only at hSw
          go_simp
          all_goals with_reducible rfl
        try simp only [Act.put]
        try simp only [List.setIfInBounds_toArray]
        try simp only [List.set_cons_succ]
        try simp only [List.set_cons_zero]
        refine wpAnyH_take (i := 42) (v := ?_) (arr_get (at8 (at8 (at8 (at8 (at8 (at_succ (at_succ at_zero)))))))) (by kernel_rfl) (by kernel_rfl) (by kernel_rfl) (fun _ _ _ h => h) (Or.inl ⟨by rfl, ?_⟩) (by assumption) ?_
        rotate_left
        · intro w9 hSw
          try dsimp only at hSw
          go_simp
          all_goals with_reducible rfl
        try simp only [Act.put]
        try simp only [List.setIfInBounds_toArray]
        try simp only [List.set_cons_succ]
        try simp only [List.set_cons_zero]
        refine wpAnyH_take (i := 43) (v := ?_) (arr_get (at8 (at8 (at8 (at8 (at8 (at_succ (at_succ (at_succ at_zero))))))))) (by kernel_rfl) (by kernel_rfl) (by kernel_rfl) (fun _ _ _ h => h) (Or.inl ⟨by rfl, ?_⟩) (by assumption) ?_
        rotate_left
        · intro w9 hSw
          try dsimp only at hSw
          go_simp
          all_goals with_reducible rfl
        try simp only [Act.put]
        try simp only [List.setIfInBounds_toArray]
        try simp only [List.set_cons_succ]
        try simp only [List.set_cons_zero]
        refine wpAnyH_ready (rs := [44]) (by kernel_rfl) (by simp) ?_
        refine AllReadyH.cons (arr_get (at8 (at8 (at8 (at8 (at8 (at_succ (at_succ (at_succ (at_succ at_zero)))))))))) (fun K hK => ?_) AllReadyH.nil
        go_simp
        go_at_call 17
        with_reducible refine (hT4.out _ (by assumption)).mono ?_
        rintro e w5 ⟨rfl, hb5⟩
        have hB5 := bchain (show Below W.heap.size W _ by assumption) hb5
        try go_wp2_with fail
        refine hK.out _ _ (by (try dsimp only); with_reducible exact hS.out _ hB5) (fun hHeld => ?_)
        clear hK K
        try simp only [Act.put]
        try simp only [List.setIfInBounds_toArray]
        try simp only [List.set_cons_succ]
        try simp only [List.set_cons_zero]
        refine wpAnyH_take (i := 45) (v := ?_) (arr_get (at8 (at8 (at8 (at8 (at8 (at_succ (at_succ (at_succ (at_succ (at_succ at_zero))))))))))) (by kernel_rfl) (by kernel_rfl) (by kernel_rfl) (fun _ _ _ h => h) (Or.inl ⟨by rfl, ?_⟩) (by assumption) ?_
        rotate_left
        · intro w9 hSw
          try dsimp only at hSw
          go_simp
          all_goals with_reducible rfl
        try simp only [Act.put]
        try simp only [List.setIfInBounds_toArray]
        try simp only [List.set_cons_succ]
        try simp only [List.set_cons_zero]
        refine wpAnyH_take (i := 46) (v := ?_) (arr_get (at8 (at8 (at8 (at8 (at8 (at_succ (at_succ (at_succ (at_succ (at_succ (at_succ at_zero)))))))))))) (by kernel_rfl) (by kernel_rfl) (by kernel_rfl) (fun _ _ _ h => h) (Or.inl ⟨by rfl, ?_⟩) (by assumption) ?_
        rotate_left
        · intro w9 hSw
          try dsimp only at hSw
          go_simp
          all_goals with_reducible rfl
        try simp only [Act.put]
        try simp only [List.setIfInBounds_toArray]
        try simp only [List.set_cons_succ]
        try simp only [List.set_cons_zero]
        refine wpAnyH_take (i := 47) (v := ?_) (arr_get (at8 (at8 (at8 (at8 (at8 (at_succ (at_succ (at_succ (at_succ (at_succ (at_succ (at_succ at_zero))))))))))))) (by kernel_rfl) (by kernel_rfl) (by kernel_rfl) (fun _ _ _ h => h) (Or.inl ⟨by rfl, ?_⟩) (by assumption) ?_
        rotate_left
        · intro w9 hSw
          try dsimp only at hSw
          go_simp
          all_goals with_reducible rfl
        try simp only [Act.put]
        try simp only [List.setIfInBounds_toArray]
        try simp only [List.set_cons_succ]
        try simp only [List.set_cons_zero]
        refine wpAnyH_take (i := 48) (v := ?_) (arr_get (at8 (at8 (at8 (at8 (at8 (at8 at_zero))))))) (by kernel_rfl) (by kernel_rfl) (by kernel_rfl) (fun _ _ _ h => h) (Or.inl ⟨by rfl, ?_⟩) (by assumption) ?_
        rotate_left
        · intro w9 hSw
          try dsimp only at hSw
          go_simp
          all_goals with_reducible rfl
        try simp only [Act.put]
        try simp only [List.setIfInBounds_toArray]
        try simp only [List.set_cons_succ]
        try simp only [List.set_cons_zero]
        refine wpAnyH_take (i := 50) (v := ?_) (arr_get (at8 (at8 (at8 (at8 (at8 (at8 (at_succ (at_succ at_zero))))))))) (by kernel_rfl) (by kernel_rfl) (by kernel_rfl) (fun _ _ _ h => h) (Or.inl ⟨by rfl, ?_⟩) (by assumption) ?_
        rotate_left
        · intro w9 hSw
          try dsimp only at hSw
          go_simp
          all_goals with_reducible rfl
        try simp only [Act.put]
        try simp only [List.setIfInBounds_toArray]
        try simp only [List.set_cons_succ]
        try simp only [List.set_cons_zero]
        refine wpAnyH_ready (rs := [49]) (by kernel_rfl) (by simp) ?_
        refine AllReadyH.cons (arr_get (at8 (at8 (at8 (at8 (at8 (at8 (at_succ at_zero)))))))) (fun K hK => ?_) AllReadyH.nil
        go_simp
        go_at_call 18
        with_reducible refine (hT5.out _ (by assumption)).mono ?_
        rintro e w5 ⟨rfl, hb5⟩
        have hB5 := bchain (show Below W.heap.size W _ by assumption) hb5
        try go_wp2_with fail
        refine hK.out _ _ (by (try dsimp only); with_reducible exact hS.out _ hB5) (fun hHeld => ?_)
        clear hK K
        try simp only [Act.put]
        try simp only [List.setIfInBounds_toArray]
        try simp only [List.set_cons_succ]
        try simp only [List.set_cons_zero]
        refine wpAnyH_ready (rs := [51]) (by kernel_rfl) (by simp) ?_
        refine AllReadyH.cons (arr_get (at8 (at8 (at8 (at8 (at8 (at8 (at_succ (at_succ (at_succ at_zero)))))))))) (fun K hK => ?_) AllReadyH.nil
        go_simp
        go_at_call 19
        with_reducible refine (hT6.out _ (by assumption)).mono ?_
        rintro e w5 ⟨rfl, hb5⟩
        have hB5 := bchain (show Below W.heap.size W _ by assumption) hb5
        try go_wp2_with fail
        refine hK.out _ _ (by (try dsimp only); with_reducible exact hS.out _ hB5) (fun hHeld => ?_)
        clear hK K
        try simp only [Act.put]
        try simp only [List.setIfInBounds_toArray]
        try simp only [List.set_cons_succ]
        try simp only [List.set_cons_zero]
        refine wpAnyH_take (i := 52) (v := ?_) (arr_get (at8 (at8 (at8 (at8 (at8 (at8 (at_succ (at_succ (at_succ (at_succ at_zero))))))))))) (by kernel_rfl) (by kernel_rfl) (by kernel_rfl) (fun _ _ _ h => h) (Or.inl ⟨by rfl, ?_⟩) (by assumption) ?_
        rotate_left
        · intro w9 hSw
          try dsimp only at hSw
          go_simp
          all_goals with_reducible rfl
        try simp only [Act.put]
        try simp only [List.setIfInBounds_toArray]
        try simp only [List.set_cons_succ]
        try simp only [List.set_cons_zero]
        refine wpAnyH_take (i := 53) (v := ?_) (arr_get (at8 (at8 (at8 (at8 (at8 (at8 (at_succ (at_succ (at_succ (at_succ (at_succ at_zero)))))))))))) (by kernel_rfl) (by kernel_rfl) (by kernel_rfl) (fun _ _ _ h => h) (Or.inl ⟨by rfl, ?_⟩) (by assumption) ?_
        rotate_left
        · intro w9 hSw
          try dsimp only at hSw
          go_simp
          all_goals with_reducible rfl
        try simp only [Act.put]
        try simp only [List.setIfInBounds_toArray]
        try simp only [List.set_cons_succ]
        try simp only [List.set_cons_zero]
        refine wpAnyH_take (i := 54) (v := ?_) (arr_get (at8 (at8 (at8 (at8 (at8 (at8 (at_succ (at_succ (at_succ (at_succ (at_succ (at_succ at_zero))))))))))))) (by kernel_rfl) (by kernel_rfl) (by kernel_rfl) (fun _ _ _ h => h) (Or.inl ⟨by rfl, ?_⟩) (by assumption) ?_
        rotate_left
        · intro w9 hSw
          try dsimp only at hSw
          go_simp
          all_goals with_reducible rfl
        try simp only [Act.put]
        try simp only [List.setIfInBounds_toArray]
        try simp only [List.set_cons_succ]
        try simp only [List.set_cons_zero]
        refine wpAnyH_take (i := 55) (v := ?_) (arr_get (at8 (at8 (at8 (at8 (at8 (at8 (at_succ (at_succ (at_succ (at_succ (at_succ (at_succ (at_succ at_zero)))))))))))))) (by kernel_rfl) (by kernel_rfl) (by kernel_rfl) (fun _ _ _ h => h) (Or.inl ⟨by rfl, ?_⟩) (by assumption) ?_
        rotate_left
        · intro w9 hSw
          try dsimp only at hSw
          go_simp
          all_goals with_reducible rfl
        try simp only [Act.put]
        try simp only [List.setIfInBounds_toArray]
        try simp only [List.set_cons_succ]
        try simp only [List.set_cons_zero]
        refine wpAnyH_take (i := 57) (v := ?_) (arr_get (at8 (at8 (at8 (at8 (at8 (at8 (at8 (at_succ at_zero))))))))) (by kernel_rfl) (by kernel_rfl) (by kernel_rfl) (fun _ _ _ h => h) (Or.inl ⟨by rfl, ?_⟩) (by assumption) ?_
        rotate_left
        · intro w9 hSw
          try dsimp only at hSw
          go_simp
          all_goals with_reducible rfl
        try simp only [Act.put]
        try simp only [List.setIfInBounds_toArray]
        try simp only [List.set_cons_succ]
        try simp only [List.set_cons_zero]
        refine wpAnyH_ready (rs := [56]) (by kernel_rfl) (by simp) ?_
        refine AllReadyH.cons (arr_get (at8 (at8 (at8 (at8 (at8 (at8 (at8 at_zero)))))))) (fun K hK => ?_) AllReadyH.nil
        go_simp
        go_at_call 20
        with_reducible refine (hT7.out _ (by assumption)).mono ?_
        rintro e w5 ⟨rfl, hb5⟩
        have hB5 := bchain (show Below W.heap.size W _ by assumption) hb5
        try go_wp2_with fail
        refine hK.out _ _ (by (try dsimp only); with_reducible exact hS.out _ hB5) (fun hHeld => ?_)
        clear hK K
        try simp only [Act.put]
        try simp only [List.setIfInBounds_toArray]
        try simp only [List.set_cons_succ]
        try simp only [List.set_cons_zero]
        refine wpAnyH_ready (rs := [58]) (by kernel_rfl) (by simp) ?_
        refine AllReadyH.cons (arr_get (at8 (at8 (at8 (at8 (at8 (at8 (at8 (at_succ (at_succ at_zero)))))))))) (fun K hK => ?_) AllReadyH.nil
        go_simp
        go_at_call 21
        with_reducible refine (hT8.out _ (by assumption)).mono ?_
        rintro e w5 ⟨rfl, hb5⟩
        have hB5 := bchain (show Below W.heap.size W _ by assumption) hb5
        try go_wp2_with fail
        refine hK.out _ _ (by (try dsimp only); with_reducible exact hS.out _ hB5) (fun hHeld => ?_)
        clear hK K
        try simp only [Act.put]
        try simp only [List.setIfInBounds_toArray]
        try simp only [List.set_cons_succ]
        try simp only [List.set_cons_zero]
        refine wpAnyH_take (i := 59) (v := ?_) (arr_get (at8 (at8 (at8 (at8 (at8 (at8 (at8 (at_succ (at_succ (at_succ at_zero))))))))))) (by kernel_rfl) (by kernel_rfl) (by kernel_rfl) (fun _ _ _ h => h) (Or.inl ⟨by rfl, ?_⟩) (by assumption) ?_
        rotate_left
        · intro w9 hSw
          try dsimp only at hSw
          go_simp
          all_goals with_reducible rfl
        try simp only [Act.put]
        try simp only [List.setIfInBounds_toArray]
        try simp only [List.set_cons_succ]
        try simp only [List.set_cons_zero]
        refine wpAnyH_take (i := 60) (v := ?_) (arr_get (at8 (at8 (at8 (at8 (at8 (at8 (at8 (at_succ (at_succ (at_succ (at_succ at_zero)))))))))))) (by kernel_rfl) (by kernel_rfl) (by kernel_rfl) (fun _ _ _ h => h) (Or.inl ⟨by rfl, ?_⟩) (by assumption) ?_
        rotate_left
        · intro w9 hSw
          try dsimp only at hSw
          go_simp
          all_goals with_reducible rfl
        try simp only [Act.put]
        try simp only [List.setIfInBounds_toArray]
        try simp only [List.set_cons_succ]
        try simp only [List.set_cons_zero]
        refine wpAnyH_take (i := 61) (v := ?_) (arr_get (at8 (at8 (at8 (at8 (at8 (at8 (at8 (at_succ (at_succ (at_succ (at_succ (at_succ at_zero))))))))))))) (by kernel_rfl) (by kernel_rfl) (by kernel_rfl) (fun _ _ _ h => h) (Or.inl ⟨by rfl, ?_⟩) (by assumption) ?_
        rotate_left
        · intro w9 hSw
          try dsimp only at hSw
          go_simp
          all_goals with_reducible rfl
        try simp only [Act.put]
        try simp only [List.setIfInBounds_toArray]
        try simp only [List.set_cons_succ]
        try simp only [List.set_cons_zero]
        refine wpAnyH_take (i := 62) (v := ?_) (arr_get (at8 (at8 (at8 (at8 (at8 (at8 (at8 (at_succ (at_succ (at_succ (at_succ (at_succ (at_succ at_zero)))))))))))))) (by kernel_rfl) (by kernel_rfl) (by kernel_rfl) (fun _ _ _ h => h) (Or.inl ⟨by rfl, ?_⟩) (by assumption) ?_
        rotate_left
        · intro w9 hSw
          try dsimp only at hSw
          go_simp
          all_goals with_reducible rfl
        try simp only [Act.put]
        try simp only [List.setIfInBounds_toArray]
        try simp only [List.set_cons_succ]
        try simp only [List.set_cons_zero]
        refine wpAnyH_take (i := 64) (v := ?_) (arr_get (at8 (at8 (at8 (at8 (at8 (at8 (at8 (at8 at_zero))))))))) (by kernel_rfl) (by kernel_rfl) (by kernel_rfl) (fun _ _ _ h => h) (Or.inl ⟨by rfl, ?_⟩) (by assumption) ?_
        rotate_left
        · intro w9 hSw
          try dsimp only at hSw
          go_simp
          all_goals with_reducible rfl
        try simp only [Act.put]
        try simp only [List.setIfInBounds_toArray]
        try simp only [List.set_cons_succ]
        try simp only [List.set_cons_zero]
        refine wpAnyH_ready (rs := [63]) (by kernel_rfl) (by simp) ?_
        refine AllReadyH.cons (arr_get (at8 (at8 (at8 (at8 (at8 (at8 (at8 (at_succ (at_succ (at_succ (at_succ (at_succ (at_succ (at_succ at_zero))))))))))))))) (fun K hK => ?_) AllReadyH.nil
        go_simp
        go_at_call 22
        with_reducible refine (hT9.out _ (by assumption)).mono ?_
        rintro e w5 ⟨rfl, hb5⟩
        have hB5 := bchain (show Below W.heap.size W _ by assumption) hb5
        try go_wp2_with fail
        refine hK.out _ _ (by (try dsimp only); with_reducible exact hS.out _ hB5) (fun hHeld => ?_)
        clear hK K
        try simp only [Act.put]
        try simp only [List.setIfInBounds_toArray]
        try simp only [List.set_cons_succ]
        try simp only [List.set_cons_zero]
        refine wpAnyH_ready (rs := [65]) (by kernel_rfl) (by simp) ?_
        refine AllReadyH.cons (arr_get (at8 (at8 (at8 (at8 (at8 (at8 (at8 (at8 (at_succ at_zero)))))))))) (fun K hK => ?_) AllReadyH.nil
        go_simp
        go_at_call 16
        with_reducible refine (hT10.out _ (by assumption)).mono ?_
        rintro e w5 ⟨rfl, hb5⟩
        have hB5 := bchain (show Below W.heap.size W _ by assumption) hb5
        try go_wp2_with fail
        refine hK.out _ _ (by (try dsimp only); with_reducible exact hS.out _ hB5) (fun hHeld => ?_)
        clear hK K
        try simp only [Act.put]
        try simp only [List.setIfInBounds_toArray]
        try simp only [List.set_cons_succ]
        try simp only [List.set_cons_zero]
        refine wpAnyH_take (i := 66) (v := ?_) (arr_get (at8 (at8 (at8 (at8 (at8 (at8 (at8 (at8 (at_succ (at_succ at_zero))))))))))) (by kernel_rfl) (by kernel_rfl) (by kernel_rfl) (fun _ _ _ h => h) (Or.inl ⟨by rfl, ?_⟩) (by assumption) ?_
        rotate_left
        · intro w9 hSw
          try dsimp only at hSw
          go_simp
          all_goals with_reducible rfl
        try simp only [Act.put]
        try simp only [List.setIfInBounds_toArray]
        try simp only [List.set_cons_succ]
        try simp only [List.set_cons_zero]
        refine wpAnyH_take (i := 67) (v := ?_) (arr_get (at8 (at8 (at8 (at8 (at8 (at8 (at8 (at8 (at_succ (at_succ (at_succ at_zero)))))))))))) (by kernel_rfl) (by kernel_rfl) (by kernel_rfl) (fun _ _ _ h => h) (Or.inl ⟨by rfl, ?_⟩) (by assumption) ?_
        rotate_left
        · intro w9 hSw
          try dsimp only at hSw
          go_simp
          all_goals with_reducible rfl
        try simp only [Act.put]
        try simp only [List.setIfInBounds_toArray]
        try simp only [List.set_cons_succ]
        try simp only [List.set_cons_zero]
        refine wpAnyH_done (by kernel_rfl) ?_ _
        refine NoPanic.normal ?_
        go_wp2_with fail
        go_meet
        exact hid ⟨rfl, by assumption⟩
  case rest =>
    obtain ⟨rfl, hbc⟩ := hcut.out
    clear hcut HTB HBK HT
    have hBC := bchain HB.out hbc
    have XX3 := hid (X3.out.below hbc X3.out.lt)
    have hF5 := fault_named hf2 hf3
    have hone := HF1.out
    clear X1 R1 X2 R2 X3 R3 X4 R4 hbc HF1 hS
    go_wp2_with fail
    refine (FaultName_any F1 _).mono ?_
    rintro e wf ⟨rfl, hbf⟩
    have X3 := hid (XX3.out.below hbf XX3.out.lt)
    have hBF := bchain hBC hbf
    obtain ⟨⟨x30, x31, x32, x33, x34, x35⟩, -⟩ := zc X3.out
    clear hbf XX3
    generalize rFaultName F1 = fn at *
    cases hb : (F1 == 0) with
    | true =>
      rw [hb] at hone
      subst hone
      have hk3 := HKD.out rfl
      subst hk3
      have hq3 : ((kinR (tl S) : Int) == (kinR (tl S) : Int)) = true := by simp
      go_wp2
      go_region_with (go_at_call 22; refine (KindOfText_any S _ (by omega)).mono ?_; rintro e w' ⟨rfl, rfl⟩)
      all_goals
        go_wp2
        go_ret
        exact ⟨rfl, by first | exact hBF | exact hBF.drew⟩
    | false =>
      rw [hb] at hone
      subst hone
      go_wp2
      go_region
      all_goals
        go_wp2
        go_ret
        exact ⟨rfl, by first | exact hBF | exact hBF.drew⟩
set_option maxRecDepth 100000 in
theorem fnNotations_walk (w : World) (A : Option Addr) (n c : Nat) (xs : List Int) (hK : Came .u8 w A n c xs) :
    Calls Tryz.prog 3 #[.slice A n c] w fun e w' => e = .returned (.bool true) ∧ Below w.heap.size w w' := by
  by_cases h : n ≤ 4096
  · exact fnNotations_main w A n c xs hK h
  · have hq : decide (4096 < n) = true := by simp; omega
    have h1 := hK.2.1; have h2 := hK.2.2.1
    unfold maxLen at h2
    have hL := f6big_any A n c w (by omega)
    rw [hq] at hL
    have hL := hid hL
    clear hK h hq
    go_enter Tryz.func3, Tryz.ntmps3
    go_wp2_with (go_at_call 4; refine (hL.out).mono ?_; rintro e w' ⟨rfl, rfl⟩)
    go_ret
    exact ⟨rfl, (by repeat' (first | exact Below.refl _ _ | (with_reducible first | assumption | exact Nat.le_refl _ | refine Below.alloc ?_ ?_ _ | refine Below.setCell ?_ ?_ _ | refine Below.drew ?_ | refine below_drewN ?_ _) | refine Below.trans ?_ (Below.mono (by assumption) ?_) | exact Below.size (by assumption) | omega | go_size | (simp at *; omega)))⟩
end Go.Proofs.YtgphkfnobmponaaGreat
