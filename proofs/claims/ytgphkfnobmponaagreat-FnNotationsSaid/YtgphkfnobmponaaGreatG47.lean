/- Several texts in one: Wz, Nl, No. -/
import Derived.Test.YtgphkfnobmponaaGreatWy
import Derived.Test.YtgphkfnobmponaaGreatG40
import Derived.Test.YtgphkfnobmponaaGreatWx
import Derived.Test.YtgphkfnobmponaaGreatNy
import Derived.Test.YtgphkfnobmponaaGreatDw
import Derived.Test.YtgphkfnobmponaaGreatNj
import Derived.Test.YtgphkfnobmponaaGreatG21
import Derived.Test.YtgphkfnobmponaaGreatG20
/- Contract of l07Draw: a notation drawn. -/
namespace Go.Proofs.YtgphkfnobmponaaGreat
open Go.RowKit
set_option linter.unusedVariables false

/-- Short lists. -/
def Sm3 (x : Note) : Prop := x.2.2.2.2.2.length ≤ x.2.2.2.2.1.length ∧ x.2.1.length ≤ 1000 ∧ x.2.2.2.2.1.length ≤ 1000
def NdRes (B : Nat) (w : World) (e : Ending) : Prop := ∃ (x : Note) (s : Six), e = .returned (ntV x s) ∧ NtSm x ∧ TxOk x ∧ Sm3 x ∧ NtDr B w x s
theorem NdRes.p {B : Nat} {w : World} {v : Value} (h : OkRow B w v) : NdRes B w (.returned (.agg #[.int .i64 1, v, .slice none 0 0, .slice none 0 0, .slice none 0 0, .slice none 0 0])) := by
  obtain ⟨p, hp, ho⟩ := h
  obtain ⟨A, c, rfl⟩ := own_form ho
  have hl := (thOk_iff (okP_th hp)).2.2
  exact ⟨(1, p, [], [], ([], [])), ⟨A, c, none, 0, none, 0, none, 0, none, 0⟩, rfl, ⟨by show p.length ≤ 2000000; omega, ⟨by simp, fun r h => by simp at h, by simp [tot]⟩, by simp, by simp, by simp⟩, .inl ⟨rfl, hp⟩, ⟨Nat.le_refl _, by show p.length ≤ 1000; omega, by simp⟩, NtDr.p ho⟩
theorem NdRes.s {B : Nat} {w : World} {v : Value} (h : SyRow2 B 3 w v) : NdRes B w (.returned (.agg #[.int .i64 3, .slice none 0 0, .slice none 0 0, v, .slice none 0 0, .slice none 0 0])) := by
  obtain ⟨q, h1, h2, hb, ho⟩ := h
  obtain ⟨A, c, rfl⟩ := own_form ho
  exact ⟨(3, [], [], q, ([], [])), ⟨none, 0, none, 0, A, c, none, 0, none, 0⟩, rfl, ⟨by simp, ⟨by simp, fun r h => by simp at h, by simp [tot]⟩, by show q.length ≤ 2000000; omega, by simp, by simp⟩, .inr (.inr (.inl ⟨rfl, by show q.length ≤ 6; omega, hb⟩)), ⟨Nat.le_refl _, by simp, by simp⟩, NtDr.s ho⟩
theorem NdRes.q {B N gA cA gB cB : Nat} {w : World} (hN : N ≤ 5) (h : PgAtB B N w gA cA gB cB) : NdRes B w (.returned (.agg #[.int .i64 4, .slice none 0 0, .slice none 0 0, .slice none 0 0, .slice (some ⟨gA, 0, none⟩) N cA, .slice (some ⟨gB, 0, none⟩) N cB])) := by
  obtain ⟨a, b, ⟨ha, hb⟩, h1, h2⟩ := h
  have la : a.length = N := by have := h1.1; rw [ths_len] at this; omega
  have lb : b.length = N := by have := h2.1; rw [ths_len] at this; omega
  rw [← la] at h1
  have h2' : w.ownsRow B 83 2 (.slice (some ⟨gB, 0, none⟩) b.length cB) b.length (ths b) := by rw [lb]; exact h2
  refine ⟨(4, [], [], [], (a, b)), ⟨none, 0, none, 0, none, 0, some ⟨gA, 0, none⟩, cA, some ⟨gB, 0, none⟩, cB⟩, by rw [ntV, la, lb]; rfl, ⟨by simp, ⟨by simp, fun r h => by simp at h, by simp [tot]⟩, by simp, by show a.length ≤ 2000000; omega, by show b.length ≤ 2000000; omega⟩, .inr (.inr (.inr ⟨rfl, by show a.length ≤ 8; omega, by show b.length ≤ 8; omega, ha, hb⟩)), ⟨by show b.length ≤ a.length; omega, by simp, by show a.length ≤ 1000; omega⟩, NtDr.q h1 h2'⟩
theorem thrOk_bd {t : Thr} (h : thrOk t = true) : 0 ≤ t.1 ∧ t.1 ≤ 14 := (thrOk_iff.1 h).1
theorem ptOk_bd {t : PT} (h : ptOk t = true) : 0 ≤ t.1 ∧ t.1 ≤ 15 := by
  unfold ptOk at h
  rw [Bool.and_eq_true, betweenB_iff] at h
  exact h.1
theorem ntOk_tx {x : Note} (h : ntOk x = true) : TxOk x := by
  have h2 := (ntOk_eb h).2
  rcases ntOk_kind h with k | k | k | k
  · rw [swN_1 k] at h2; exact .inl ⟨k, h2⟩
  · rw [swN_2 k] at h2
    have h3 := msSh_iff.1 (mOk_iff.1 h2).1
    exact .inr (.inl ⟨k, by omega, fun r hr => ⟨(mstOk_iff.1 (h3.2 r hr)).1, fun y hy => mstOk_bd (h3.2 r hr) hy⟩⟩)
  · rw [swN_3 k] at h2
    have h3 := beatsOk_iff.1 (syOk_b h2)
    exact .inr (.inr (.inl ⟨k, h3.2.2, fun b hb => ⟨(thrOk_bd (h3.1 b hb).1).1, (thrOk_bd (h3.1 b hb).1).2, (thrOk_bd (h3.1 b hb).2).1, (thrOk_bd (h3.1 b hb).2).2⟩⟩))
  · rw [swN_4 k] at h2
    obtain ⟨⟨a1, a2⟩, a3, a4, a5⟩ := psSh_iff.1 (psOk_iff.1 h2).1
    exact .inr (.inr (.inr ⟨k, a2, by omega, fun t ht => ptOk_bd (ptsOk_iff.1 a4 t ht), fun t ht => ptOk_bd (ptsOk_iff.1 a5 t ht)⟩))
theorem ntOk_sm {x : Note} (h : ntOk x = true) (hle : x.2.2.2.2.2.length ≤ x.2.2.2.2.1.length) : Sm3 x := by
  obtain ⟨h1, h2⟩ := ntOk_eb h
  obtain ⟨k, p, m, y, q1, q2⟩ := x
  simp only [ebN, ebL, Bool.and_eq_true, Bool.or_eq_true, beq_iff_eq] at h1
  obtain ⟨⟨⟨e1, _⟩, _⟩, e4⟩ := h1
  refine ⟨hle, ?_, ?_⟩
  · show p.length ≤ 1000
    rcases e1 with rfl | e1
    · rw [swN_1 rfl] at h2
      have := (thOk_iff (okP_th h2)).2.2
      simp only at this; omega
    · omega
  · show q1.length ≤ 1000
    rcases e4 with rfl | e4
    · rw [swN_4 rfl] at h2
      obtain ⟨⟨a1, a2⟩, _⟩ := psSh_iff.1 (psOk_iff.1 h2).1
      simp only at a2; omega
    · omega
theorem rSlide_le {p : List Beat} (h : p.length ≤ 3) : (rSlide p).1.length ≤ 6 := by
  unfold rSlide
  split
  · show (slP p).length ≤ 6; rw [slP_len]; omega
  · simp
end Go.Proofs.YtgphkfnobmponaaGreat

/- NotationFault, both, and the law's walk. -/
namespace Go.Proofs.YtgphkfnobmponaaGreat
open Go.RowKit
set_option linter.unusedVariables false

def rNotationFault (s : ByteArray) : Int × Int := rFaultL (tl s)
theorem rNF_empty {s : ByteArray} (h : tl s = []) : rNotationFault s = (1, 0) := by rw [rNotationFault, rFaultL, if_pos h]
theorem rNF_long {s : ByteArray} (h0 : tl s ≠ []) (h : 200 < s.size) : rNotationFault s = (2, 200) := by rw [rNotationFault, rFaultL, if_neg h0, if_pos (by rw [tl_len]; exact h)]
theorem rNF_else {s : ByteArray} (h0 : tl s ≠ []) (h : s.size ≤ 200) : rNotationFault s = faultB (tl s) (badF (kinR (tl s)) 0 ((tl s).drop 0)) := by rw [rNotationFault, rFaultL, if_neg h0, if_neg (by rw [tl_len]; omega)]; rfl
theorem faultB_some {l : List UInt8} {i : Nat} : faultB l (some i) = (3, (i : Int)) := rfl
theorem faultB_form {l : List UInt8} (h : formR l = false) : faultB l none = (4, 0) := by simp [faultB, h]
theorem faultB_note {l : List UInt8} (h : formR l = true) (hn : noteR l = true) : faultB l none = (0, 0) := by simp [faultB, h, hn]
theorem faultB_col {l : List UInt8} (h : formR l = true) (hn : noteR l = false) (hk : kinR l = 1) : faultB l none = (5, (rCollisionOf (rdDig l)).2.1) := by simp [faultB, h, hn, hk]
theorem faultB_els {l : List UInt8} (h : formR l = true) (hn : noteR l = false) (hk : kinR l ≠ 1) : faultB l none = (5, 0) := by simp [faultB, h, hn, hk]
theorem col_clash {p : List Int} (h : thOk p = true) : (rCollisionOf p).2.1 = (clashR (colP p)).2 := by
  rw [rCollisionOf, if_pos h]
  cases colP p with
  | none => rfl
  | some x => obtain ⟨i, k⟩ := x; rfl
theorem tl_ne {s : ByteArray} (h : tl s ≠ []) : 0 < s.size := by rw [← tl_len]; exact List.length_pos_iff.2 h
theorem chOk_dig' {k : Nat} {c : UInt8} {d : Int} (h : rDig (c.toNat : Int) = d) (hd : 0 ≤ d) : chOk k c = true := chOk_dig (by omega)
theorem chOk_ex' {k : Nat} {c : UInt8} {d : Int} (h : rDig (c.toNat : Int) = d) (hd : ¬ 0 ≤ d) : chOk k c = decide (c ∈ exsR k) := chOk_ex (by omega)
set_option maxRecDepth 100000 in
set_option maxHeartbeats 4000000 in
theorem NotationFault_any (s : ByteArray) (hs : s.size ≤ 1099511627775) (w : World) :
    Calls Tryz.prog 9 #[.string s] w fun e w' => e = .returned (.tuple #[.int .i64 (rNotationFault s).1, .int .i64 (rNotationFault s).2]) ∧ Below w.heap.size w w' := by
  have hemp := tl_empty (s := s)
  by_cases h0 : tl s = []
  · have hem : s.toList.isEmpty = true := by rw [hemp]; exact decide_eq_true h0
    have HZ := hid (rNF_empty h0)
    clear hemp h0
    go_enter Tryz.func9, Tryz.ntmps9
    go_wp2
    go_ret2
    exact ⟨by rw [HZ.out]; rfl, (by repeat' (first | exact Below.refl _ _ | (with_reducible first | assumption | exact Nat.le_refl _ | refine Below.alloc ?_ ?_ _ | refine Below.setCell ?_ ?_ _ | refine Below.drew ?_ | refine below_drewN ?_ _) | refine Below.trans ?_ (Below.mono (by assumption) ?_) | exact Below.size (by assumption) | omega | go_size | (simp at *; omega)))⟩
  · have hem : s.toList.isEmpty = false := by rw [hemp]; exact decide_eq_false h0
    clear hemp
    by_cases h200 : 200 < s.size
    · have HZ := hid (rNF_long h0 h200)
      have hI : (200 : Int) < (s.size : Int) := by omega
      clear h0
      go_enter Tryz.func9, Tryz.ntmps9
      go_wp2
      go_ret2
      exact ⟨by rw [HZ.out]; rfl, (by repeat' (first | exact Below.refl _ _ | (with_reducible first | assumption | exact Nat.le_refl _ | refine Below.alloc ?_ ?_ _ | refine Below.setCell ?_ ?_ _ | refine Below.drew ?_ | refine below_drewN ?_ _) | refine Below.trans ?_ (Below.mono (by assumption) ?_) | exact Below.size (by assumption) | omega | go_size | (simp at *; omega)))⟩
    · have hI : ¬ (200 : Int) < (s.size : Int) := by omega
      have hp := tl_ne h0
      have hZ := rNF_else h0 (by omega)
      have hK := KindOfText_any s w (by omega)
      have hkc := kinR_cases (tl s)
      have hF := hid (fun (w1 : World) => hasForm_any s w1 hp (by omega))
      have hN := hid (fun (w1 : World) => ReadNotation_any s w1 (by omega))
      obtain ⟨kk, hkk⟩ : ∃ kk, kinR (tl s) = kk := ⟨_, rfl⟩
      rw [hkk] at hK hkc hZ
      obtain ⟨B, hB⟩ : ∃ B, badF kk 0 ((tl s).drop 0) = B := ⟨_, rfl⟩
      rw [hB] at hZ
      have HB := hid hB
      have HZ := hid hZ
      have HK := hid hK
      have HKC := hid hkc
      have HKK := hid hkk
      have hE := hid (fun (w1 : World) => extras_any kk hkc w1)
      clear hK hkc hkk hB hZ h0
      go_enter Tryz.func9, Tryz.ntmps9
      go_wp2_with fail
      refine HK.out.mono ?_
      rintro e w1 ⟨rfl, rfl⟩
      go_wp2
      go_loopw [22] (fun i wr => Hid (∃ k : Nat, k ≤ s.size ∧ i = .int .i64 k ∧ Hid (badF kk k ((tl s).drop k) = B) ∧ Below w.heap.size w wr)) (fun i _ => s.size - (intOf i).toNat)
      case atStart => exact hid ⟨0, Nat.zero_le _, rfl, HB, Below.refl _ _⟩
      case round =>
        clear HB HK
        obtain ⟨k, hk, rfl, he, hb0⟩ := hrel.out
        clear hrel
        by_cases hlt : k < s.size
        · have he1 := he.out
          rw [tl_drop s k hlt] at he1
          have hby : ((s[k]'hlt).toNat : Int) ≤ 255 := by have := (s[k]'hlt).toNat_lt; omega
          have hby0 : 0 ≤ ((s[k]'hlt).toNat : Int) := by omega
          have hD := fun (m : Nat) => hexOf_any ((s[k]'hlt).toNat : Int) hby0 hby (wr.drewN m)
          have hH := fun (m : Nat) => hasByte_any (st (exsR kk)) (s[k]'hlt) (wr.drewN m) (by rw [st_size]; rcases HKC.out with h | h | h | h <;> subst h <;> decide)
          rw [tl_st] at hH
          obtain ⟨d, hd⟩ : ∃ d, rDig ((s[k]'hlt).toNat : Int) = d := ⟨_, rfl⟩
          rw [hd] at hD
          by_cases hd0 : 0 ≤ d
          · rw [badF_ok (chOk_dig' hd hd0)] at he1
            have HI := hid he1
            have hD := hid hD
            have hng : decide (d < 0) = false := decide_eq_false (by omega)
            clear he he1 hH hd
            go_wp2
            go_quiet ((go_at_call 35; exact quiet_same (hD.out _)))
            go_wp2
            go_roundw
            case rel => exact hid ⟨k + 1, by omega, by go_num, HI, (by repeat' (first | exact Below.refl _ _ | (with_reducible first | assumption | exact Nat.le_refl _ | refine Below.alloc ?_ ?_ _ | refine Below.setCell ?_ ?_ _ | refine Below.drew ?_ | refine below_drewN ?_ _) | refine Below.trans ?_ (Below.mono (by assumption) ?_) | exact Below.size (by assumption) | omega | go_size | (simp at *; omega)))⟩
            case measure => simp [intOf]; omega
          · have hx := chOk_ex' (k := kk) hd hd0
            have hdl : d < 0 := by omega
            obtain ⟨b, hb⟩ : ∃ b, decide ((s[k]'hlt) ∈ exsR kk) = b := ⟨_, rfl⟩
            rw [hb] at hx hH
            have hD := hid hD
            have hH := hid hH
            cases b with
            | true =>
              rw [badF_ok hx] at he1
              have HI := hid he1
              clear he he1 hd hx hb hd0
              go_wp2
              go_quiet (first | (go_at_call 35; exact quiet_same (hD.out _)) | (go_at_call 37; exact quiet_same (hE.out _)) | (go_at_call 36; exact quiet_same (hH.out _)))
              go_wp2
              go_roundw
              case rel => exact hid ⟨k + 1, by omega, by go_num, HI, (by repeat' (first | exact Below.refl _ _ | (with_reducible first | assumption | exact Nat.le_refl _ | refine Below.alloc ?_ ?_ _ | refine Below.setCell ?_ ?_ _ | refine Below.drew ?_ | refine below_drewN ?_ _) | refine Below.trans ?_ (Below.mono (by assumption) ?_) | exact Below.size (by assumption) | omega | go_size | (simp at *; omega)))⟩
              case measure => simp [intOf]; omega
            | false =>
              rw [badF_no hx] at he1
              have HR : Hid (rNotationFault s = (3, (k : Int))) := by show _ = _; rw [HZ.out, ← he1]; rfl
              clear he he1 hd hx hb hd0
              go_wp2
              go_quiet (first | (go_at_call 35; exact quiet_same (hD.out _)) | (go_at_call 37; exact quiet_same (hE.out _)) | (go_at_call 36; exact quiet_same (hH.out _)))
              go_wp2
              go_ret2
              exact ⟨by rw [HR.out]; rfl, (by repeat' (first | exact Below.refl _ _ | (with_reducible first | assumption | exact Nat.le_refl _ | refine Below.alloc ?_ ?_ _ | refine Below.setCell ?_ ?_ _ | refine Below.drew ?_ | refine below_drewN ?_ _) | refine Below.trans ?_ (Below.mono (by assumption) ?_) | exact Below.size (by assumption) | omega | go_size | (simp at *; omega)))⟩
        · have he1 := he.out
          rw [List.drop_eq_nil_of_le (by rw [tl_len]; omega)] at he1
          have HE : Hid (rNotationFault s = faultB (tl s) none) := by show _ = _; rw [HZ.out, ← he1]; rfl
          have hF1 := hF.out wr
          clear he he1 hE hF HZ
          cases hf : formR (tl s) with
          | false =>
            rw [hf] at hF1
            have HF := hid hF1
            have HR : Hid (rNotationFault s = (4, 0)) := by show _ = _; rw [HE.out]; exact faultB_form hf
            clear hF1 hf HE hN
            go_wp2_with fail
            refine HF.out.mono ?_
            rintro e w1 ⟨rfl, hb1⟩
            have hB1 := bchain hb0 hb1
            go_wp2
            go_ret2
            exact ⟨by rw [HR.out]; rfl, hB1⟩
          | true =>
            rw [hf] at hF1
            have HF := hid hF1
            cases hn : noteR (tl s) with
            | true =>
              have HR : Hid (rNotationFault s = (0, 0)) := by show _ = _; rw [HE.out]; exact faultB_note hf hn
              have hRN := rRN_yes (l := tl s) (by rw [tl_len]; omega) hn
              rw [hRN] at hN
              clear hF1 hf HE hn hRN
              go_wp2_with fail
              refine HF.out.mono ?_
              rintro e w1 ⟨rfl, hb1⟩
              have hB1 := bchain hb0 hb1
              clear HF
              go_wp2_with fail
              refine (hN.out _).mono ?_
              rintro e w2 ⟨⟨A, c, A2, c2, A3, c3, A4, c4, A5, c5, rfl, _, _, _, _, _⟩, hb2⟩
              have hB2 := bchain hB1 hb2
              clear hN
              go_wp2
              go_ret2
              exact ⟨by rw [HR.out]; rfl, by first | exact Below.alloc hB2 hB2.size _ | exact hB2⟩
            | false =>
              have hRN := rRN_no (l := tl s) (by rw [tl_len]; omega) hn
              rw [hRN] at hN
              by_cases hk1 : kk = 1
              · subst hk1
                have HR : Hid (rNotationFault s = (5, (rCollisionOf (rdDig s.data.toList)).2.1)) := by show _ = _; rw [HE.out]; exact faultB_col hf hn HKK.out
                have hth : thOk (rdDig s.data.toList) = true := by rw [formR_1 HKK.out] at hf; exact hf
                have hlen : s.size ≤ 12 := by have := (thOk_iff hth).2.2; rw [rdDig_len] at this; exact this
                have hT := hid (fun (w1 : World) => readThrows_any s hlen w1)
                have hC := hid (fun A c w1 h => CollisionOf_any A s.size c (rdDig s.data.toList) w1 (by omega) h)
                clear hF1 hf HE hn hRN hth
                go_wp2_with fail
                refine HF.out.mono ?_
                rintro e w1 ⟨rfl, hb1⟩
                have hB1 := bchain hb0 hb1
                clear HF
                go_wp2_with fail
                refine (hN.out _).mono ?_
                rintro e w2 ⟨⟨A, c, A2, c2, A3, c3, A4, c4, A5, c5, rfl, _, _, _, _, _⟩, hb2⟩
                have hB2 := bchain hB1 hb2
                clear hN
                go_wp2_with fail
                refine (hT.out _).mono ?_
                rintro e w3 ⟨v, rfl, ho3, hb3⟩
                obtain ⟨A7, c7, rfl⟩ := own_form ho3
                have hC3 := hid (hC.out A7 c7 w3 (Rd.of_own ho3))
                have hB3 : Below w.heap.size w w3 := bchain (by first | exact Below.alloc hB2 hB2.size _ | exact hB2) hb3
                clear hT hC ho3 hb3
                go_wp2_with fail
                refine hC3.out.mono ?_
                rintro e w4 ⟨rfl, hb4⟩
                have hB4 := bchain hB3 hb4
                clear hC3
                go_wp2
                go_ret2
                exact ⟨by rw [HR.out]; rfl, hB4⟩
              · have HR : Hid (rNotationFault s = (5, 0)) := by show _ = _; rw [HE.out]; exact faultB_els hf hn (by rw [HKK.out]; exact hk1)
                have hkI : (((kk : Nat) : Int) == 1) = false := by simp; omega
                have hkI2 : (((kk : Nat) : Int) != 1) = true := by simp; omega
                clear hF1 hf HE hn hRN hk1
                go_wp2_with fail
                refine HF.out.mono ?_
                rintro e w1 ⟨rfl, hb1⟩
                have hB1 := bchain hb0 hb1
                clear HF
                go_wp2_with fail
                refine (hN.out _).mono ?_
                rintro e w2 ⟨⟨A, c, A2, c2, A3, c3, A4, c4, A5, c5, rfl, _, _, _, _, _⟩, hb2⟩
                have hB2 := bchain hB1 hb2
                clear hN
                go_wp2
                go_ret2
                exact ⟨by rw [HR.out]; rfl, by first | exact Below.alloc hB2 hB2.size _ | exact hB2⟩
set_option maxRecDepth 100000 in
set_option maxHeartbeats 4000000 in
theorem specNotationFault_any (s : ByteArray) (hs : s.size ≤ 1099511627775) (w : World) :
    Calls Tryz.prog 10 #[.string s] w fun e w' => e = .returned (.tuple #[.int .i64 (rNotationFault s).1, .int .i64 (rNotationFault s).2]) ∧ Below w.heap.size w w' := by
  have hemp := tl_empty (s := s)
  by_cases h0 : tl s = []
  · have hem : s.toList.isEmpty = true := by rw [hemp]; exact decide_eq_true h0
    have HZ := hid (rNF_empty h0)
    clear hemp h0
    go_enter Tryz.func10, Tryz.ntmps10
    go_wp2
    go_ret2
    exact ⟨by rw [HZ.out]; rfl, (by repeat' (first | exact Below.refl _ _ | (with_reducible first | assumption | exact Nat.le_refl _ | refine Below.alloc ?_ ?_ _ | refine Below.setCell ?_ ?_ _ | refine Below.drew ?_ | refine below_drewN ?_ _) | refine Below.trans ?_ (Below.mono (by assumption) ?_) | exact Below.size (by assumption) | omega | go_size | (simp at *; omega)))⟩
  · have hem : s.toList.isEmpty = false := by rw [hemp]; exact decide_eq_false h0
    clear hemp
    by_cases h200 : 200 < s.size
    · have HZ := hid (rNF_long h0 h200)
      have hI : (200 : Int) < (s.size : Int) := by omega
      clear h0
      go_enter Tryz.func10, Tryz.ntmps10
      go_wp2
      go_ret2
      exact ⟨by rw [HZ.out]; rfl, (by repeat' (first | exact Below.refl _ _ | (with_reducible first | assumption | exact Nat.le_refl _ | refine Below.alloc ?_ ?_ _ | refine Below.setCell ?_ ?_ _ | refine Below.drew ?_ | refine below_drewN ?_ _) | refine Below.trans ?_ (Below.mono (by assumption) ?_) | exact Below.size (by assumption) | omega | go_size | (simp at *; omega)))⟩
    · have hI : ¬ (200 : Int) < (s.size : Int) := by omega
      have hp := tl_ne h0
      have hZ := rNF_else h0 (by omega)
      have hK := specKindOfText_any s w (by omega)
      have hkc := kinR_cases (tl s)
      have hF := fun (w1 : World) => l07Form_any s w1 hp (by omega)
      have hN := fun (w1 : World) => l07Read_any s w1 (by omega)
      rw [decide_eq_true (show s.size ≤ 200 by omega), Bool.and_true] at hN
      have hN := hid hN
      obtain ⟨kk, hkk⟩ : ∃ kk, kinR (tl s) = kk := ⟨_, rfl⟩
      rw [hkk] at hK hkc hZ hF
      have hF := hid hF
      obtain ⟨B, hB⟩ : ∃ B, badF kk 0 ((tl s).drop 0) = B := ⟨_, rfl⟩
      rw [hB] at hZ
      have HB := hid hB
      have HZ := hid hZ
      have HK := hid hK
      have HKK := hid hkk
      have hE := hid (fun (c : UInt8) (w1 : World) => l07Char_any kk hkc c w1)
      clear hK hkc hkk hB hZ h0
      go_enter Tryz.func10, Tryz.ntmps10
      go_wp2_with fail
      refine HK.out.mono ?_
      rintro e w1 ⟨rfl, rfl⟩
      go_wp2
      go_loopw [5] (fun i wr => Hid (∃ k : Nat, k ≤ s.size ∧ i = .int .i64 k ∧ Hid (badF kk k ((tl s).drop k) = B) ∧ Below w.heap.size w wr)) (fun i _ => s.size - (intOf i).toNat)
      case atStart => exact hid ⟨0, Nat.zero_le _, rfl, HB, Below.refl _ _⟩
      case round =>
        clear HB HK
        obtain ⟨k, hk, rfl, he, hb0⟩ := hrel.out
        clear hrel
        by_cases hlt : k < s.size
        · have he1 := he.out
          rw [tl_drop s k hlt] at he1
          have hC := hE.out (s[k]'hlt) wr
          cases hx : chOk kk (s[k]'hlt) with
          | true =>
            rw [hx] at hC
            rw [badF_ok hx] at he1
            have HI := hid he1
            have hC := hid hC
            clear he he1 hx
            go_wp2_with fail
            refine hC.out.mono ?_
            rintro e w1 ⟨rfl, rfl⟩
            go_wp2
            go_roundw
            case rel => exact hid ⟨k + 1, by omega, by go_num, HI, hb0⟩
            case measure => simp [intOf]; omega
          | false =>
            rw [hx] at hC
            rw [badF_no hx] at he1
            have HR : Hid (rNotationFault s = (3, (k : Int))) := by show _ = _; rw [HZ.out, ← he1]; rfl
            have hC := hid hC
            clear he he1 hx
            go_wp2_with fail
            refine hC.out.mono ?_
            rintro e w1 ⟨rfl, rfl⟩
            go_wp2
            go_ret2
            exact ⟨by rw [HR.out]; rfl, hb0⟩
        · have he1 := he.out
          rw [List.drop_eq_nil_of_le (by rw [tl_len]; omega)] at he1
          have HE : Hid (rNotationFault s = faultB (tl s) none) := by show _ = _; rw [HZ.out, ← he1]; rfl
          have hF1 := hF.out wr
          clear he he1 hE hF HZ
          cases hf : formR (tl s) with
          | false =>
            rw [hf] at hF1
            have HF := hid hF1
            have HR : Hid (rNotationFault s = (4, 0)) := by show _ = _; rw [HE.out]; exact faultB_form hf
            clear hF1 hf HE hN
            go_wp2_with fail
            refine HF.out.mono ?_
            rintro e w1 ⟨rfl, hb1⟩
            have hB1 := bchain hb0 hb1
            go_wp2
            go_ret2
            exact ⟨by rw [HR.out]; rfl, hB1⟩
          | true =>
            rw [hf] at hF1
            have HF := hid hF1
            cases hn : noteR (tl s) with
            | true =>
              have HR : Hid (rNotationFault s = (0, 0)) := by show _ = _; rw [HE.out]; exact faultB_note hf hn
              rw [hn] at hN
              clear hF1 hf HE hn
              go_wp2_with fail
              refine HF.out.mono ?_
              rintro e w1 ⟨rfl, hb1⟩
              have hB1 := bchain hb0 hb1
              clear HF
              go_wp2_with fail
              refine (hN.out _).mono ?_
              rintro e w2 ⟨⟨A, c, A2, c2, A3, c3, A4, c4, A5, c5, rfl, _, _, _, _, _⟩, hb2⟩
              have hB2 := bchain hB1 hb2
              clear hN
              go_wp2
              go_ret2
              exact ⟨by rw [HR.out]; rfl, by first | exact Below.alloc hB2 hB2.size _ | exact hB2⟩
            | false =>
              rw [hn] at hN
              by_cases hk1 : kk = 1
              · subst hk1
                have hth : thOk (rdDig s.data.toList) = true := by rw [formR_1 HKK.out] at hf; exact hf
                have HR : Hid (rNotationFault s = (5, (clashR (colP (rdDig s.data.toList))).2)) := by show _ = _; rw [HE.out, ← col_clash hth]; exact faultB_col hf hn HKK.out
                have hT := fun (w1 : World) => l02Read_any s (by omega) w1
                have hlen : (rdDig s.data.toList).length ≤ 12 := (thOk_iff hth).2.2
                clear hF1 hf HE hn HKK
                generalize rdDig s.data.toList = R at *
                have hT := hid hT
                have hC := hid (fun A c w1 h => l02Clash_any A R.length c R w1 hth h)
                clear hth
                go_wp2_with fail
                refine HF.out.mono ?_
                rintro e w1 ⟨rfl, hb1⟩
                have hB1 := bchain hb0 hb1
                clear HF
                go_wp2_with fail
                refine (hN.out _).mono ?_
                rintro e w2 ⟨⟨A, c, A2, c2, A3, c3, A4, c4, A5, c5, rfl, _, _, _, _, _⟩, hb2⟩
                have hB2 := bchain hB1 hb2
                clear hN
                go_wp2_with fail
                refine (hT.out _).mono ?_
                rintro e w3 ⟨v, rfl, ho3, hb3⟩
                obtain ⟨A7, c7, rfl⟩ := own_form ho3
                have hC3 := hid (hC.out A7 c7 w3 (Rd.of_own ho3))
                have hB3 : Below w.heap.size w w3 := bchain (by first | exact Below.alloc hB2 hB2.size _ | exact hB2) hb3
                clear hT hC ho3 hb3
                go_wp2_with fail
                refine hC3.out.mono ?_
                rintro e w4 ⟨rfl, hb4⟩
                have hB4 := bchain hB3 hb4
                clear hC3
                go_wp2
                go_ret2
                exact ⟨by rw [HR.out]; rfl, hB4⟩
              · have HR : Hid (rNotationFault s = (5, 0)) := by show _ = _; rw [HE.out]; exact faultB_els hf hn (by rw [HKK.out]; exact hk1)
                have hkI : (((kk : Nat) : Int) == 1) = false := by simp; omega
                clear hF1 hf HE hn hk1
                go_wp2_with fail
                refine HF.out.mono ?_
                rintro e w1 ⟨rfl, hb1⟩
                have hB1 := bchain hb0 hb1
                clear HF
                go_wp2_with fail
                refine (hN.out _).mono ?_
                rintro e w2 ⟨⟨A, c, A2, c2, A3, c3, A4, c4, A5, c5, rfl, _, _, _, _, _⟩, hb2⟩
                have hB2 := bchain hB1 hb2
                clear hN
                go_wp2
                go_ret2
                exact ⟨by rw [HR.out]; rfl, by first | exact Below.alloc hB2 hB2.size _ | exact hB2⟩
end Go.Proofs.YtgphkfnobmponaaGreat

/- Contracts of the laws' own helpers over notations, spec.ReadNotation, and the law's walk. -/
namespace Go.Proofs.YtgphkfnobmponaaGreat
open Go.RowKit
set_option linter.unusedVariables false

/-- The notation that lies there bears marks. -/
def NtMk (x : Note) (s : Six) (w : World) : Prop :=
  Rd w w.heap.size 1 s.A x.2.1.length (ints (marks 1 x.2.1.length)) ∧ RdG w w.heap.size s.A2 x.2.2.1.length (mkRows (1 + x.2.1.length) x.2.2.1) ∧
  Rd w w.heap.size 4 s.A3 x.2.2.2.1.length (bts (mkB ((1 + x.2.1.length + tot x.2.2.1 : Nat) : Int) x.2.2.2.1.length)) ∧
  Rd w w.heap.size 2 s.A4 x.2.2.2.2.1.length (ths (mkP ((1 + x.2.1.length + tot x.2.2.1 + 4 * x.2.2.2.1.length : Nat) : Int) x.2.2.2.2.1.length)) ∧
  Rd w w.heap.size 2 s.A5 x.2.2.2.2.2.length (ths (mkP ((1 + x.2.1.length + tot x.2.2.1 + 4 * x.2.2.2.1.length + 2 * x.2.2.2.2.1.length : Nat) : Int) x.2.2.2.2.2.length))
theorem NtMk.below {x : Note} {s : Six} {w w' : World} (h : NtMk x s w) (hb : Below w.heap.size w w') : NtMk x s w' := by
  obtain ⟨h1, h2, h3, h4, h5⟩ := h
  exact ⟨(h1.below hb (Nat.le_refl _)).more hb.size, (h2.below hb (Nat.le_refl _)).more hb.size, (h3.below hb (Nat.le_refl _)).more hb.size, (h4.below hb (Nat.le_refl _)).more hb.size, (h5.below hb (Nat.le_refl _)).more hb.size⟩
end Go.Proofs.YtgphkfnobmponaaGreat
