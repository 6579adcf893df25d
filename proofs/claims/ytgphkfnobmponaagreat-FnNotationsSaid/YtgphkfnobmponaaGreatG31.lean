/- Several texts in one: Za, Wr. -/
import Derived.Test.YtgphkfnobmponaaGreatG26
/- Contracts of the functions that read texts of synchronous patterns: beats. -/
namespace Go.Proofs.YtgphkfnobmponaaGreat
open Go.RowKit
set_option linter.unusedVariables false

/-- Beats that are read, of the call's own, and whether they are a list of beats. -/
def BtRes (B : Nat) (r : Option (List Beat)) (e : Ending) (w : World) : Prop := ∃ (q : List Beat) (A : Option Addr) (c : Nat), (A = none → c = 0) ∧ q.length ≤ 7 ∧ e = .returned (.tuple #[.slice A q.length c, .bool r.isSome]) ∧ w.ownsRow B 95 4 (.slice A q.length c) q.length (bts q) ∧ ∀ q', r = some q' → q' = q
theorem BtRes.no (B : Nat) (w : World) : BtRes B none (.returned (.tuple #[.slice none 0 0, .bool false])) w := ⟨[], none, 0, fun _ => rfl, by simp, rfl, World.ownsRow_nil _ _ _ _, fun q h => by cases h⟩
theorem BtRes.mk {B : Nat} {w : World} {v : Value} {q : List Beat} {r : Option (List Beat)} {b : Bool} (hq : q.length ≤ 7) (h : w.ownsRow B 95 4 v q.length (bts q)) (hb : r.isSome = b) (hr : ∀ q', r = some q' → q' = q) : BtRes B r (.returned (.tuple #[v, .bool b])) w := by
  obtain ⟨A, c, rfl, hA⟩ := own_form3 h
  exact ⟨q, A, c, hA, hq, by rw [hb], h, hr⟩
/-- The beats of a list that has been read whole. -/
def nonE : Option (List Beat) → Option (List Beat)
  | some [] => none
  | r => r
theorem rdB_nonE (l : List UInt8) : rdB l = nonE (pB 6 l) := by
  unfold rdB nonE
  cases h : pB 6 l with
  | none => rfl
  | some p => cases p <;> rfl
theorem nonE_ok {out : List Beat} (h : out.all btOk = true) (h6 : out.length ≤ 6) : (nonE (some out)).isSome = beatsOk out ∧ ∀ q', nonE (some out) = some q' → q' = out := by
  cases out with
  | nil => exact ⟨rfl, fun q' h => by cases h⟩
  | cons b p =>
    refine ⟨?_, fun q' h => by injection h with h; exact h.symm⟩
    unfold beatsOk
    rw [h, Bool.true_and]
    show true = _
    symm
    rw [betweenB_iff]
    simp at h6 ⊢
    omega
theorem beatsOk_7 {out : List Beat} (h : out.length = 7) : beatsOk out = false := by
  cases hb : beatsOk out with
  | false => rfl
  | true => have := (beatsOk_iff.1 hb).2.2; omega
/-- What is still to be read, behind what has been. -/
def Rest (out : List Beat) (l : List UInt8) (R : Option (List Beat)) : Prop := (out.length ≤ 6 → (pB (6 - out.length) l).map (out ++ ·) = R) ∧ (6 < out.length → R = none)
theorem Rest.start (l : List UInt8) : Rest [] l (pB 6 l) := ⟨fun _ => by show (pB 6 l).map _ = _; cases pB 6 l <;> rfl, fun h => by simp at h⟩
theorem Rest.done {out : List Beat} {R : Option (List Beat)} (h : Rest out [] R) (hb : out.all btOk = true) (h7 : out.length ≤ 7) : (nonE R).isSome = beatsOk out ∧ ∀ q', nonE R = some q' → q' = out := by
  by_cases h6 : out.length ≤ 6
  · have := h.1 h6
    rw [pB_nil] at this
    have : R = some out := by rw [← this]; simp
    rw [this]
    exact nonE_ok hb h6
  · rw [h.2 (by omega), beatsOk_7 (by omega)]
    exact ⟨rfl, fun q' h => by cases h⟩
theorem Rest.full {out : List Beat} {l : List UInt8} {R : Option (List Beat)} (h : Rest out l R) (h7 : out.length = 7) : (nonE R).isSome = beatsOk out ∧ ∀ q', nonE R = some q' → q' = out := by
  rw [h.2 (by omega), beatsOk_7 h7]
  exact ⟨rfl, fun q' h => by cases h⟩
theorem Rest.head {out : List Beat} {x : UInt8} {r : List UInt8} {R : Option (List Beat)} (h : Rest out (x :: r) R) (h6 : out.length ≤ 6) (hx : x ≠ 40) : R = none := by
  have := h.1 h6
  rw [← this]
  cases 6 - out.length with
  | zero => rfl
  | succ n => rw [pB, if_neg hx]; rfl
theorem Rest.cut {out : List Beat} {r : List UInt8} {R : Option (List Beat)} (h : Rest out (40 :: r) R) (h6 : out.length ≤ 6) (hf : (cutL 41 r).2.2 = false) : R = none := by
  have := h.1 h6
  rw [← this]
  cases 6 - out.length with
  | zero => rfl
  | succ n => rw [pB, if_pos rfl, if_neg (by rw [hf]; decide)]; rfl
theorem Rest.own {out : List Beat} {r : List UInt8} {R : Option (List Beat)} (h : Rest out (40 :: r) R) (h6 : out.length ≤ 6) (hf : (cutL 41 r).2.2 = true) (ho : rdOwn (cutL 41 r).1 = none) : R = none := by
  have := h.1 h6
  rw [← this]
  cases 6 - out.length with
  | zero => rfl
  | succ n => rw [pB, if_pos rfl, if_pos hf, ho]; rfl
theorem Rest.next {out : List Beat} {r : List UInt8} {R : Option (List Beat)} {b : Beat} (h : Rest out (40 :: r) R) (h6 : out.length ≤ 6) (hf : (cutL 41 r).2.2 = true) (ho : rdOwn (cutL 41 r).1 = some b) : Rest (out ++ [b]) (cutL 41 r).2.1 R := by
  have h1 := h.1 h6
  refine ⟨fun h2 => ?_, fun h2 => ?_⟩
  · rw [List.length_append, List.length_singleton] at h2
    obtain ⟨n, hn⟩ : ∃ n, 6 - out.length = n + 1 := ⟨6 - out.length - 1, by omega⟩
    rw [hn, pB, if_pos rfl, if_pos hf, ho] at h1
    rw [← h1, List.length_append, List.length_singleton, show 6 - (out.length + 1) = n by omega]
    cases pB n (cutL 41 r).2.1 with
    | none => rfl
    | some q => simp
  · rw [List.length_append, List.length_singleton] at h2
    have : 6 - out.length = 0 := by omega
    rw [this] at h1
    exact h1.symm
theorem cut_shorter {r : List UInt8} (hf : (cutL 41 r).2.2 = true) : (cutL 41 r).2.1.length < r.length + 1 := by
  rcases cutL_spec 41 r with h | h
  · have := congrArg List.length h.2.1
    simp at this
    omega
  · rw [hf] at h; cases h.1
theorem cutL_size (c : UInt8) (l : List UInt8) : (cutL c l).1.length ≤ l.length ∧ (cutL c l).2.1.length ≤ l.length := by
  rcases cutL_spec c l with h | h
  · have := congrArg List.length h.2.1
    simp at this
    omega
  · rw [h.2.2.1, h.2.2.2]; simp
set_option maxRecDepth 100000 in
set_option maxHeartbeats 1000000 in
theorem readBeats_any (s : ByteArray) (w : World) (hs : s.size ≤ 1099511627776) :
    Calls Tryz.prog 65 #[.string s] w fun e w' => BtRes w.heap.size (rdB (tl s)) e w' ∧ Below w.heap.size w w' := by
  rw [rdB_nonE]
  have hst := hid (Rest.start (tl s))
  generalize pB 6 (tl s) = R at *
  go_enter Tryz.func65, Tryz.ntmps65
  go_wp2
  go_loopw [0, 4] (fun u v wr => Hid (∃ (t : ByteArray) (out : List Beat), u = .string t ∧ t.size ≤ 1099511627776 ∧ out.length ≤ 7 ∧ Hid (Rest out (tl t) R) ∧ Hid (out.all btOk = true) ∧ wr.ownsRow w.heap.size 95 4 v out.length (bts out) ∧ Below w.heap.size w wr)) (fun u _ _ => match u with | .string t => t.size | _ => 0)
  case atStart => exact hid ⟨s, [], rfl, hs, by simp, hst, rfl, World.ownsRow_lit _ _ 0 (Nat.le_refl _) (by simp [maxLen]) rfl, (by repeat' (first | exact Below.refl _ _ | (with_reducible first | assumption | exact Nat.le_refl _ | refine Below.alloc ?_ ?_ _ | refine Below.setCell ?_ ?_ _ | refine Below.drew ?_ | refine below_drewN ?_ _) | refine Below.trans ?_ (Below.mono (by assumption) ?_) | exact Below.size (by assumption) | omega | go_size | (simp at *; omega)))⟩
  case round =>
    obtain ⟨t, out, rfl, ht, hol, hR, hall, ho, hb0⟩ := hrel.out
    clear hrel
    have hz := hb0.size
    have hemp := tl_empty (s := t)
    obtain ⟨A, c, rfl⟩ := own_form ho
    cases htl : tl t with
    | nil =>
      have he : t.toList.isEmpty = true := by rw [hemp]; exact decide_eq_true htl
      have HT := areSyncBeats_any A out.length c out wr (by omega) (Rd.of_own ho)
      rw [htl] at hR
      have hD := hR.out.done hall.out hol
      obtain ⟨hD1, hD2⟩ := hD
      rw [← hD1] at HT
      have HT := hid HT
      have HD1 := hid hD1
      have HD2 := hid hD2
      clear hemp htl hR hD1 hD2
      go_wp2_with fail
      refine HT.out.mono ?_
      rintro e w1 ⟨rfl, hb1⟩
      go_wp2
      go_ret2
      exact ⟨BtRes.mk hol (own_below ho hb1) rfl HD2.out, (by repeat' (first | exact Below.refl _ _ | (with_reducible first | assumption | exact Nat.le_refl _ | refine Below.alloc ?_ ?_ _ | refine Below.setCell ?_ ?_ _ | refine Below.drew ?_ | refine below_drewN ?_ _) | refine Below.trans ?_ (Below.mono (by assumption) ?_) | exact Below.size (by assumption) | omega | go_size | (simp at *; omega)))⟩
    | cons x r =>
      have he : t.toList.isEmpty = false := by rw [hemp]; exact decide_eq_false (by rw [htl]; simp)
      have hts : 0 < t.size := by rw [← tl_len, htl]; simp
      have hx0 : t[0]'hts = x := by
        have h := tl_drop t 0 hts
        rw [List.drop_zero, htl] at h
        injection h with h _
        exact h.symm
      have hts2 : (0 : Int) < (t.size : Int) := by omega
      rw [htl] at hR
      by_cases h7 : out.length = 7
      · have HT := areSyncBeats_any A out.length c out wr (by omega) (Rd.of_own ho)
        obtain ⟨hD1, hD2⟩ := hR.out.full h7
        rw [← hD1] at HT
        have HT := hid HT
        have HD2 := hid hD2
        have hq : ¬ (out.length : Int) ≤ 6 := by omega
        clear hemp htl hR hD1 hD2 h7
        go_wp2_with fail
        refine HT.out.mono ?_
        rintro e w1 ⟨rfl, hb1⟩
        go_wp2
        go_ret2
        exact ⟨BtRes.mk hol (own_below ho hb1) rfl HD2.out, (by repeat' (first | exact Below.refl _ _ | (with_reducible first | assumption | exact Nat.le_refl _ | refine Below.alloc ?_ ?_ _ | refine Below.setCell ?_ ?_ _ | refine Below.drew ?_ | refine below_drewN ?_ _) | refine Below.trans ?_ (Below.mono (by assumption) ?_) | exact Below.size (by assumption) | omega | go_size | (simp at *; omega)))⟩
      · have h6 : out.length ≤ 6 := by omega
        have hq : (out.length : Int) ≤ 6 := by omega
        by_cases hx : x = 40
        · subst hx
          have hq2 : (((t[0]'hts).toNat : Int) != 40) = false := by rw [hx0]; rfl
          obtain ⟨sub, hsub⟩ : ∃ sub, t.extract 1 t.size = sub := ⟨_, rfl⟩
          have hst : tl sub = r := by rw [← hsub, tl_extract, List.take_of_length_le (by rw [tl_len]; exact Nat.le_refl _), htl]; rfl
          have hsz : sub.size ≤ 1099511627776 := by rw [← hsub, ByteArray.size_extract]; omega
          have hts1 : (1 : Int) ≤ (t.size : Int) := by omega
          have hC := cut_any sub 41 wr hsz
          rw [hst] at hC
          have hcz := cutL_size 41 r
          have hrl : r.length + 1 = t.size := by rw [← tl_len, htl]; rfl
          have hcs := hid (fun hf => cut_shorter (r := r) hf)
          have HN := hid (fun (b : Beat) hf ho => hR.out.next (b := b) h6 hf ho)
          have HO := hid (fun hf ho => hR.out.own h6 hf ho)
          have HC := hid (fun hf => hR.out.cut h6 hf)
          generalize cutL 41 r = ct at *
          obtain ⟨c1, c2, f⟩ := ct
          simp only at hcz hcs HN HO HC
          have hC := hid hC
          clear hemp htl hR hst hx0 h7
          go_wp2_with fail
          refine hC.out.mono ?_
          rintro e w1 ⟨⟨own, rest, rfl, hown, hrest⟩, hb1⟩
          have hB1 := bchain hb0 hb1
          have ho1 := own_below ho hb1
          have hoz : own.size ≤ 1099511627776 := by rw [← tl_len, hown]; simp only; omega
          have hrz : rest.size = c2.length := by rw [← tl_len, hrest]
          have hC2 := cut_any own 44 w1 hoz
          simp only at hown hrest
          rw [hown] at hC2
          have hcz2 := cutL_size 44 c1
          have HOW : Hid (rdOwn c1 = if (cutL 44 c1).2.2 then rdPair (rdT (cutL 44 c1).1) (rdT (cutL 44 c1).2.1) else none) := rfl
          generalize cutL 44 c1 = ct2 at *
          obtain ⟨d1, d2, f2⟩ := ct2
          simp only at hcz2 HOW
          have hC2 := hid hC2
          have HRZ := hid hrz
          have HRT := hid hrest
          clear hsub hC ho hb1 hown hrz hrest
          go_wp2_with fail
          refine hC2.out.mono ?_
          rintro e w2 ⟨⟨left, right, rfl, hleft, hright⟩, hb2⟩
          have hB2 := bchain hB1 hb2
          have ho2 := own_below ho1 hb2
          simp only at hleft hright
          have hlz : left.size ≤ 1099511627776 := by rw [← tl_len, hleft]; omega
          have hrz2 : right.size ≤ 1099511627776 := by rw [← tl_len, hright]; omega
          have hT1 := hid (fun w9 => readThr_any left w9 hlz)
          have hT2 := hid (fun w9 => readThr_any right w9 hrz2)
          rw [hleft] at hT1
          rw [hright] at hT2
          generalize rdT d1 = o1 at *
          generalize rdT d2 = o2 at *
          clear hC2 ho1 hb2 hleft hright
          go_wp2_with fail
          refine (hT1.out _).mono ?_
          rintro e w3 ⟨⟨t1, rfl, ht1⟩, hb3⟩
          have hB3 := bchain hB2 hb3
          have ho3 := own_below ho2 hb3
          obtain ⟨p1, p2⟩ := t1
          go_wp2_with fail
          refine (hT2.out _).mono ?_
          rintro e w4 ⟨⟨t2, rfl, ht2⟩, hb4⟩
          obtain ⟨r1, r2⟩ := t2
          have hv0 : w4.cell? ⟨w3.heap.size, 0, none⟩ = some (.int .i64 p1) := (hb4.cell (p := ⟨w3.heap.size, 0, none⟩) (by simp)).trans (by simp)
          have hv1 : w4.cell? ⟨w3.heap.size, 1, none⟩ = some (.bool p2) := (hb4.cell (p := ⟨w3.heap.size, 1, none⟩) (by simp)).trans (by simp)
          have hba : Below w3.heap.size w3 (w3.alloc (Obj.cells #[.int .i64 p1, .bool p2] 93)) := (by repeat' (first | exact Below.refl _ _ | (with_reducible first | assumption | exact Nat.le_refl _ | refine Below.alloc ?_ ?_ _ | refine Below.setCell ?_ ?_ _ | refine Below.drew ?_ | refine below_drewN ?_ _) | refine Below.trans ?_ (Below.mono (by assumption) ?_) | exact Below.size (by assumption) | omega | go_size | (simp at *; omega)))
          have hb34 : Below w3.heap.size w3 w4 := hba.trans (hb4.mono (by simp))
          have ho4 := own_below ho3 hb34
          have hB4 := bchain hB3 hb34
          have hz4 := hB4.size
          have hl34 : w3.heap.size < w4.heap.size := by have := hb4.size; simp at this; omega
          have HT1 := hid ht1
          have HT2 := hid ht2
          have HO4 := hid (fun o => ho4.alloc o)
          clear ho2 ho3 ho4 hb3 hb4 hba hb34 hT1 hT2 ht1 ht2
          have hBa : Below w.heap.size w (w4.alloc (Obj.cells #[.int .i64 r1, .bool r2] 93)) := (by repeat' (first | exact Below.refl _ _ | (with_reducible first | assumption | exact Nat.le_refl _ | refine Below.alloc ?_ ?_ _ | refine Below.setCell ?_ ?_ _ | refine Below.drew ?_ | refine below_drewN ?_ _) | refine Below.trans ?_ (Below.mono (by assumption) ?_) | exact Below.size (by assumption) | omega | go_size | (simp at *; omega)))
          cases f with
          | false =>
            have HZ := hid (HC.out rfl)
            go_wp2
            go_ret2
            exact ⟨by rw [HZ.out]; exact BtRes.no _ _, hBa⟩
          | true =>
            cases f2 with
            | false =>
              have HZ := hid (HO.out rfl (by rw [HOW.out]; rfl))
              go_wp2
              go_ret2
              exact ⟨by rw [HZ.out]; exact BtRes.no _ _, hBa⟩
            | true =>
              cases o1 with
              | none =>
                have HZ := hid (HO.out rfl (by rw [HOW.out]; rfl))
                go_wp2
                go_ret2
                exact ⟨by rw [HZ.out]; exact BtRes.no _ _, hBa⟩
              | some u1 =>
                cases o2 with
                | none =>
                  have HZ := hid (HO.out rfl (by rw [HOW.out]; rfl))
                  go_wp2
                  go_ret2
                  exact ⟨by rw [HZ.out]; exact BtRes.no _ _, hBa⟩
                | some u2 =>
                  have e1 := HT1.out u1 rfl
                  have e2 := HT2.out u2 rfl
                  subst e1 e2
                  have how : rdOwn c1 = some ((p1, p2), (r1, r2)) := by rw [HOW.out]; rfl
                  have HNX := hid (HN.out _ rfl how)
                  have HAL : Hid ((out ++ [((p1, p2), (r1, r2))]).all btOk = true) := by show _ = _; rw [List.all_append, hall.out]; simp [rdOwn_ok how]
                  have hcs2 := hcs.out rfl
                  clear how HT1 HT2 HOW HN HO HC
                  go_wp2_with (at_builtin; refine push_bt (HO4.out _) p1 p2 r1 r2 _ rfl _ _ rfl rfl rfl (by first | rfl | simp) (by omega) (by simp; omega) ?_; intro v5 w5 ho5 hb5 hg5)
                  go_roundw
                  case rel => exact hid ⟨rest, out ++ [((p1, p2), (r1, r2))], rfl, by rw [HRZ.out]; omega, by rw [List.length_append, List.length_singleton]; omega, hid (by rw [HRT.out]; exact HNX.out), HAL, ho5, hBa.trans hb5⟩
                  case measure => have := HRZ.out; simp; omega
        · have hq2 : (((t[0]'hts).toNat : Int) != 40) = true := by
            rw [hx0]
            simp only [bne_iff_ne, ne_eq]
            intro e
            exact hx (UInt8.toNat_inj.1 (by have e : x.toNat = 40 := by omega
                                            rw [e]; rfl))
          have HZ := hid (hR.out.head h6 hx)
          clear hemp htl hR hx h7 hx0
          go_wp2
          go_ret2
          exact ⟨by rw [HZ.out]; exact BtRes.no _ _, hb0⟩
end Go.Proofs.YtgphkfnobmponaaGreat

/- Plain: a valid multiplex pattern with single throws is a valid pattern. -/
namespace Go.Proofs.YtgphkfnobmponaaGreat
open Go.RowKit
set_option linter.unusedVariables false

theorem onec_cons (n k : Nat) (x : Int) (l : List Int) : mLnds n k ((x :: l).map fun x => [x]) = (if 0 < x then [(k + x.toNat) % n] else []) ++ mLnds n (k + 1) (l.map fun x => [x]) := by
  show mLnd n k [x] ++ mLnds n (k + 1) (l.map fun x => [x]) = _
  unfold mLnd
  by_cases h : 0 < x <;> simp [h]
theorem onec_ge1 (n i : Nat) : ∀ (l : List Int) (k j : Nat) (x : Int), l[j]? = some x → 0 < x → (k + j + x.toNat) % n = i → 1 ≤ (mLnds n k (l.map fun x => [x])).count i
  | [], _, _, _, h, _, _ => by simp at h
  | y :: l, k, 0, x, h, hx, hj => by
    obtain rfl : y = x := by simpa using h
    rw [Nat.add_zero] at hj
    rw [onec_cons, List.count_append, if_pos hx, hj]
    simp
  | y :: l, k, j + 1, x, h, hx, hj => by
    have ih := onec_ge1 n i l (k + 1) j x (by simpa using h) hx (by rw [show k + 1 + j = k + (j + 1) by omega]; exact hj)
    rw [onec_cons, List.count_append]; omega
theorem onec_ge2 (n i : Nat) : ∀ (l : List Int) (k a b : Nat) (x y : Int), a < b → l[a]? = some x → l[b]? = some y → 0 < x → 0 < y → (k + a + x.toNat) % n = i → (k + b + y.toNat) % n = i → 2 ≤ (mLnds n k (l.map fun x => [x])).count i
  | [], _, _, _, _, _, _, h, _, _, _, _, _ => by simp at h
  | z :: l, k, 0, b + 1, x, y, _, ha, hb, hx, hy, ea, eb => by
    obtain rfl : z = x := by simpa using ha
    rw [Nat.add_zero] at ea
    have ih := onec_ge1 n i l (k + 1) b y (by simpa using hb) hy (by rw [show k + 1 + b = k + (b + 1) by omega]; exact eb)
    rw [onec_cons, List.count_append, if_pos hx, ea]
    simp; omega
  | z :: l, k, a + 1, b + 1, x, y, hab, ha, hb, hx, hy, ea, eb => by
    have ih := onec_ge2 n i l (k + 1) a b x y (by omega) (by simpa using ha) (by simpa using hb) hx hy (by rw [show k + 1 + a = k + (a + 1) by omega]; exact ea) (by rw [show k + 1 + b = k + (b + 1) by omega]; exact eb)
    rw [onec_cons, List.count_append]; omega
  | _ :: _, _, a, 0, _, _, hab, _, _, _, _, _, _ => by omega
theorem Ld_nn {p : List Int} {j : Nat} {x : Int} (h : p[j]? = some x) (hx : 0 ≤ x) : Ld p j = (((j + x.toNat) % p.length : Nat) : Int) := by
  unfold Ld
  rw [List.getD_eq_getElem?_getD, h]
  simp only [Option.getD_some]
  rw [Int.natCast_emod, Int.natCast_add, Int.toNat_of_nonneg hx]
theorem okP_inj {p : List Int} (h : thOk p = true) (hi : ∀ a b : Nat, a < b → b < p.length → Ld p a ≠ Ld p b) : okP p = true := by
  unfold okP
  rw [h, Bool.true_and]
  cases hc : colP p with
  | none => rfl
  | some ab =>
    obtain ⟨a, b⟩ := ab
    rw [colP_one] at hc
    obtain ⟨h1, h2, h3, h4⟩ := col2_some hc
    exact absurd h4 (hi a b h1 (by omega))
theorem onec_ok {p : List Int} (h : mOk (p.map fun x => [x]) = true) : okP p = true := by
  obtain ⟨hs, hl⟩ := mOk_iff.1 h
  obtain ⟨⟨h1, h12⟩, hst⟩ := msSh_iff.1 hs
  rw [List.length_map] at h1 h12 hl
  have hb : ∀ x ∈ p, 0 ≤ x ∧ x ≤ 15 := fun x hx => mstOk_bd (hst [x] (List.mem_map.2 ⟨x, hx, rfl⟩)) (List.mem_singleton.2 rfl)
  refine okP_inj (thOk_mk hb h1 h12) fun a b hab hbn e => ?_
  have ha : p[a]? = some p[a] := List.getElem?_eq_getElem (by omega)
  have hb' : p[b]? = some p[b] := List.getElem?_eq_getElem hbn
  have xb := hb _ (List.getElem_mem (show a < p.length by omega))
  have yb := hb _ (List.getElem_mem hbn)
  generalize p[a] = x at ha xb
  generalize p[b] = y at hb' yb
  have l1 := Ld_nn ha xb.1
  have l2 := Ld_nn hb' yb.1
  rw [e] at l1
  have l3 : (a + x.toNat) % p.length = (b + y.toNat) % p.length := by omega
  have key : ∀ (i : Nat) (z : Int), p[i]? = some z → (mLnds p.length 0 (p.map fun x => [x])).count i = (thr [z]).toNat := by
    intro i z hz
    have hi := (List.getElem?_eq_some_iff.1 hz).1
    have hr : (p.map fun x => [x])[i]? = some [z] := by rw [List.getElem?_map, hz]; rfl
    have := hl i hi
    rw [mLn_at hr, List.length_map, beq_iff_eq] at this
    omega
  have t0 : (thr [(0 : Int)]).toNat = 0 := rfl
  have t1 : ∀ z : Int, (thr [z]).toNat ≤ 1 := fun z => by unfold thr; split <;> simp
  obtain ⟨i, hi⟩ : ∃ i, (b + y.toNat) % p.length = i := ⟨_, rfl⟩
  have hin : i < p.length := by rw [← hi]; exact Nat.mod_lt _ (by omega)
  rw [hi] at l3
  have hz : p[i]? = some p[i] := List.getElem?_eq_getElem hin
  have hcnt := key i _ hz
  by_cases x0 : x = 0
  · subst x0
    rw [show a + (0 : Int).toNat = a from rfl, Nat.mod_eq_of_lt (by omega)] at l3
    subst l3
    rw [ha] at hz
    injection hz with hz
    rw [← hz, t0] at hcnt
    by_cases y0 : y = 0
    · subst y0
      rw [show b + (0 : Int).toNat = b from rfl, Nat.mod_eq_of_lt hbn] at hi
      omega
    · have := onec_ge1 p.length a p 0 b y hb' (by omega) (by rw [Nat.zero_add]; exact hi)
      omega
  · by_cases y0 : y = 0
    · subst y0
      rw [show b + (0 : Int).toNat = b from rfl, Nat.mod_eq_of_lt hbn] at hi
      subst hi
      rw [hb'] at hz
      injection hz with hz
      rw [← hz, t0] at hcnt
      have := onec_ge1 p.length b p 0 a x ha (by omega) (by rw [Nat.zero_add]; exact l3)
      omega
    · have := onec_ge2 p.length i p 0 a b x y hab ha hb' (by omega) (by omega) (by rw [Nat.zero_add]; exact l3) (by rw [Nat.zero_add]; exact hi)
      have := t1 p[i]
      omega
end Go.Proofs.YtgphkfnobmponaaGreat
