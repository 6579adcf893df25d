/- Several texts in one: Yr, Ng. -/
import Derived.Test.YtgphkfnobmponaaGreatG21
import Derived.Test.YtgphkfnobmponaaGreatG09
import Derived.Test.YtgphkfnobmponaaGreatG10
import Derived.Deep.QuietTactic
import Derived.BigQuiet
/- The contract of the reference's PairUp. -/
namespace Go.Proofs.YtgphkfnobmponaaGreat
open Go.RowKit
set_option linter.unusedVariables false

set_option maxRecDepth 100000 in
set_option maxHeartbeats 1000000 in
theorem specPairUp_any (A : Option Addr) (n c : Nat) (q : List Int) (w : World) (hn : n ≤ 1099511627776) (hr : Rd w w.heap.size 1 A n (ints q)) :
    Calls Tryz.prog 132 #[.slice A n c] w fun e w' => SyRes w.heap.size (rPair q) e w' ∧ Below w.heap.size w w' := by
  have hV := l02Ok_any A n c q w hn hr
  have hlen := hr.len
  cases hp : okP q with
  | true =>
    rw [hp] at hV
    have hV := hid hV
    obtain ⟨hqb, hn1, hn2⟩ := thOk_iff (okP_th hp)
    rw [hlen] at hn1 hn2
    have hA : A = none → c = 0 := by
      obtain ⟨b, off, e, _⟩ := hr.2 (by omega)
      intro h; rw [h] at e; cases e
    have HO : Hid (rPair q = (if 12 < (allP q).length then ([], 5) else if (prP (allP q)).all btOk then (prP (allP q), 0) else ([], 10))) := by show _ = _; rw [rPair, if_pos hp]
    have hab : ∀ x ∈ allP q, 0 ≤ x ∧ x ≤ 15 := by
      intro x hx
      unfold allP at hx
      split at hx
      · rcases List.mem_append.1 hx with h | h <;> exact hqb x h
      · exact hqb x hx
    obtain ⟨M, hM0⟩ := allP_len q
    have HM0 := hid hM0
    clear hM0
    have Hod := hid (show n % 2 = 1 → q ++ q = allP q from fun h => by rw [allP, if_pos (by rw [hlen]; exact h)])
    have Hev := hid (show ¬ n % 2 = 1 → q = allP q from fun h => by rw [allP, if_neg (by rw [hlen]; exact h)])
    have HR := hid (fun (w1 : World) (b : Below w.heap.size w w1) => ((hr.below b (Nat.le_refl _)).more b.size))
    have hOwn := hid (fun (w1 : World) (b : Below w.heap.size w w1) => l00Own_any A n c q w1 (by omega) hA ((hr.below b (Nat.le_refl _)).more b.size))
    have hM24 : (allP q).length ≤ 24 := by
      unfold allP; split
      · rw [List.length_append]; omega
      · omega
    have HA := hid hA
    have HQL := hid hlen
    clear hr hp hlen hqb hA
    generalize allP q = a at *
    go_enter Tryz.func132, Tryz.ntmps132
    go_wp2_with fail
    refine hV.out.mono ?_
    rintro e w1 ⟨rfl, hb1⟩
    have hz1 := hb1.size
    go_wp2_with fail
    refine (hOwn.out w1 hb1).mono ?_
    rintro e w2 ⟨v2, rfl, ho2, hb2⟩
    have hz12 := hb2.size
    have hb2 := bchain hb1 hb2
    have hz2 := hb2.size
    obtain ⟨A2, c2, rfl⟩ := own_form ho2
    go_upto_if 19 with fail
    go_cut [4] (fun s wx => Hid (∃ A' c', s = .slice A' a.length c' ∧ Rd wx wx.heap.size 1 A' a.length (ints a) ∧ Below w.heap.size w wx))
    case first =>
      by_cases hodd : n % 2 = 1
      · have hq : ((n : Int) % 2 == 1) = true := by simp; omega
        have hqa := Hod.out hodd
        have hR2 := HR.out w2 hb2
        have ho2' : w2.ownsRow w1.heap.size 2 1 (.slice A2 n c2) q.length (ints q) := by rw [HQL.out]; exact ho2
        have HO2' := hid ho2'
        have HR2 := hid hR2
        have hql12 : q.length ≤ 12 := by rw [HQL.out]; exact hn2
        have HQA := hid hqa
        clear hodd hR2 ho2 ho2' hqa
        go_wp2_with (at_builtin; refine app_ints (xs := q) HO2'.out A n c q HR2.out HA.out Tryz.underlying24 inf_int rfl rfl (.tmp 20) (.tmp 21) rfl rfl rfl (by omega) (by omega) ?_; intro v3 w3 ho3 hb3 hg3; rw [HQA.out] at ho3; obtain ⟨A3, c3, rfl⟩ := own_form ho3)
        go_meet
        exact hid ⟨A3, c3, rfl, Rd.of_own ho3, hb2.trans (hb3.mono (by omega))⟩
      · have hq : ((n : Int) % 2 == 1) = false := by simp; omega
        have hqa := Hev.out hodd
        have HQA := hid hqa
        clear hodd hqa
        go_wp2_with fail
        go_meet
        refine hid ⟨A2, c2, ?_, ?_, hb2⟩
        · rw [← HQA.out, HQL.out]
        · rw [← HQA.out, HQL.out]; exact Rd.of_own ho2
    case rest =>
    obtain ⟨A', c', rfl, hR, hbc⟩ := hcut.out
    clear hcut hb1 hOwn HR hz1 ho2 hb2 hz2
    have hzc := hbc.size
    obtain ⟨wz, rfl⟩ : ∃ wz : World, wz = wc := ⟨_, rfl⟩
    obtain ⟨N, hN⟩ : ∃ N, a.length = N := ⟨_, rfl⟩
    rw [hN] at hR hM24 HO ⊢
    have hM := HM0.out
    rw [hN] at hM
    have HN := hid hN
    have HM := hid hM
    have HRD := hid (fun (w1 : World) (b : Below wz.heap.size wz w1) => ((hR.below b (Nat.le_refl _)).more b.size))
    clear hR hN hM
    by_cases hbig : 12 < N
    · have HO : Hid (rPair q = ([], 5)) := by show _ = _; rw [HO.out, if_pos hbig]
      go_wp2
      go_ret2
      exact ⟨by rw [HO.out]; exact SyRes.none_ _ _ _, (by repeat' (first | exact Below.refl _ _ | (with_reducible first | assumption | exact Nat.le_refl _ | refine Below.alloc ?_ ?_ _ | refine Below.setCell ?_ ?_ _ | refine Below.drew ?_ | refine below_drewN ?_ _) | refine Below.trans ?_ (Below.mono (by assumption) ?_) | exact Below.size (by assumption) | omega | go_size | (simp at *; omega)))⟩
    · have HO2 : Hid (rPair q = (if (prP a).all btOk then (prP a, 0) else ([], 10))) := by show _ = _; rw [HO.out, if_neg hbig]
      have hall := hid (prP_all (n := M) (a := a) (by rw [HN.out, HM.out]))
      have hNl : N ≤ 12 := by omega
      have Hab := hid hab
      have hpl := hid (prP_len M a (by rw [HN.out, HM.out]))
      have hps := hid (fun (j : Nat) (h : j < M) => prP_step (n := M) (a := a) (by rw [HN.out, HM.out]) h)
      have hp0 : Hid ((prP a).take 0 = []) := by show _ = _; simp
      clear hab hbig
      go_wp2
      go_loopw [5, 6] (fun v i wr => Hid (∃ m j : Nat, m ≤ N ∧ i = .int .i64 m ∧ Hid (m = 2 * j) ∧ wr.ownsRow wz.heap.size 95 4 v ((prP a).take j).length (bts ((prP a).take j)) ∧ Below wz.heap.size wz wr ∧ Hid (∀ k, k < m → thrOk (bkT k (a.getD k 0)) = true))) (fun _ i _ => N - (intOf i).toNat)
      case atStart => exact hid ⟨0, 0, Nat.zero_le _, rfl, rfl, by rw [hp0.out]; exact World.ownsRow_lit _ _ 0 (Nat.le_refl _) (by simp [maxLen]) rfl, (by repeat' (first | exact Below.refl _ _ | (with_reducible first | assumption | exact Nat.le_refl _ | refine Below.alloc ?_ ?_ _ | refine Below.setCell ?_ ?_ _ | refine Below.drew ?_ | refine below_drewN ?_ _) | refine Below.trans ?_ (Below.mono (by assumption) ?_) | exact Below.size (by assumption) | omega | go_size | (simp at *; omega))), fun k hk => by omega⟩
      case round =>
        obtain ⟨m, j, hm, rfl, hmj, ho, hbr, hok⟩ := hrel.out
        clear hrel
        have hjl : ((prP a).take j).length ≤ 12 := by rw [List.length_take, hpl.out]; have := HM.out; omega
        have hzr := hbr.size
        by_cases hlt : m < N
        · have hm1 : m + 1 < N := by have := HM.out; have := hmj.out; omega
          obtain ⟨b, off, x, hA1, hb, hx, _, hc0⟩ := (HRD.out wr hbr).at_ hlt
          obtain ⟨b', off', y, hA2, hb', hy, _, hd0⟩ := (HRD.out wr hbr).at_ hm1
          subst hA1
          injection hA2 with hA2
          injection hA2 with e1 e2
          subst e1 e2
          obtain ⟨x0, x1⟩ := Hab.out x (List.mem_of_getElem? hx)
          obtain ⟨y0, y1⟩ := Hab.out y (List.mem_of_getElem? hy)
          have hX : Hid (a.getD (2 * j) 0 = x) := by show _ = _; rw [← hmj.out, List.getD_eq_getElem?_getD, hx]; rfl
          have hY : Hid (a.getD (2 * j + 1) 0 = y) := by show _ = _; rw [← hmj.out, List.getD_eq_getElem?_getD, hy]; rfl
          have hS := hid (hps.out j (by have := HM.out; have := hmj.out; omega))
          have e0 : bkT (2 * j) x = bkT 0 x := by rw [bkT_mod, show 2 * j % 2 = 0 by omega]
          have e1 : bkT (2 * j + 1) y = bkT 1 y := by rw [bkT_mod, show (2 * j + 1) % 2 = 1 by omega]
          rw [hX.out, hY.out, e0, e1] at hS
          have hbad := hid (fun (h : ¬ (thrOk (bkT 0 x) = true ∧ thrOk (bkT 1 y) = true)) => show rPair q = ([], 10) from by
            rw [HO2.out, if_neg]
            intro h2
            refine h ⟨?_, ?_⟩
            · have := (hall.out.1 h2) (2 * j) (by rw [HN.out, ← hmj.out]; exact hlt)
              rw [hX.out, e0] at this; exact this
            · have := (hall.out.1 h2) (2 * j + 1) (by rw [HN.out, ← hmj.out]; exact hm1)
              rw [hY.out, e1] at this; exact this)
          have hgood := hid (fun (h : thrOk (bkT 0 x) = true) (h' : thrOk (bkT 1 y) = true) => show ∀ k, k < m + 2 → thrOk (bkT k (a.getD k 0)) = true from fun k hk => by
            rcases Nat.lt_or_ge k m with h1 | h1
            · exact hok.out k h1
            · rcases (show k = 2 * j ∨ k = 2 * j + 1 by have := hmj.out; omega) with rfl | rfl
              · rw [hX.out, e0]; exact h
              · rw [hY.out, e1]; exact h')
          have hC1 := hid (fun w1 => show Calls Tryz.prog 146 #[.int .i64 x, .int .i64 0] w1 fun e w' => e = .returned (.tuple #[.agg #[.int .i64 (bkT 0 x).1, .bool (bkT 0 x).2], .bool (thrOk (bkT 0 x))]) ∧ Below w1.heap.size w1 w' from l05Back_any x 0 w1 x0 x1 (by omega))
          have hC2 := hid (fun w1 => show Calls Tryz.prog 146 #[.int .i64 y, .int .i64 1] w1 fun e w' => e = .returned (.tuple #[.agg #[.int .i64 (bkT 1 y).1, .bool (bkT 1 y).2], .bool (thrOk (bkT 1 y))]) ∧ Below w1.heap.size w1 w' from l05Back_any y 1 w1 y0 y1 (by omega))
          generalize bkT 0 x = t0 at *
          generalize bkT 1 y = t1 at *
          generalize (prP a).take j = out at *
          obtain ⟨p1, p2⟩ := t0
          obtain ⟨r1, r2⟩ := t1
          obtain ⟨k1, hk1⟩ : ∃ k1, thrOk (p1, p2) = k1 := ⟨_, rfl⟩
          obtain ⟨k2, hk2⟩ : ∃ k2, thrOk (r1, r2) = k2 := ⟨_, rfl⟩
          rw [hk1] at hbad hgood hC1
          rw [hk2] at hbad hgood hC2
          have hmi : (m : Int) < (N : Int) := by omega
          have hm1i : (m : Int) + 1 < (N : Int) := by omega
          clear hx hy hX hY e0 e1 hk1 hk2 hok hlt hm1
          go_wp2_with fail
          refine (hC1.out _).mono ?_
          rintro e w3 ⟨rfl, hb3⟩
          have hd3 : w3.cell? ⟨b, off + (m + 1), none⟩ = some (.int .i64 y) := (hb3.cell (p := ⟨b, off + (m + 1), none⟩) hb).trans hd0
          have hz3 := hb3.size
          have hbw3 : b < w3.heap.size := by omega
          have hbW3 := bchain hbr hb3
          have hO3 := own_below ho hb3
          clear hc0 hd0
          go_wp2_with fail
          refine (hC2.out _).mono ?_
          rintro e w4 ⟨rfl, hb4⟩
          have hv0 : w4.cell? ⟨w3.heap.size, 0, none⟩ = some (.int .i64 p1) := (hb4.cell (p := ⟨w3.heap.size, 0, none⟩) (by simp)).trans (by simp)
          have hv1 : w4.cell? ⟨w3.heap.size, 1, none⟩ = some (.bool p2) := (hb4.cell (p := ⟨w3.heap.size, 1, none⟩) (by simp)).trans (by simp)
          have hba : Below w3.heap.size w3 (w3.alloc (Obj.cells #[.int .i64 p1, .bool p2] 93)) := (by repeat' (first | exact Below.refl _ _ | (with_reducible first | assumption | exact Nat.le_refl _ | refine Below.alloc ?_ ?_ _ | refine Below.setCell ?_ ?_ _ | refine Below.drew ?_ | refine below_drewN ?_ _) | refine Below.trans ?_ (Below.mono (by assumption) ?_) | exact Below.size (by assumption) | omega | go_size | (simp at *; omega)))
          have hb34 : Below w3.heap.size w3 w4 := hba.trans (hb4.mono (by simp))
          have hO4 := own_below hO3 hb34
          have hbW4 := bchain hbW3 hb34
          have hz4 := hbW4.size
          have HO4 := hid (fun o => hO4.alloc o)
          have hl34 : w3.heap.size < w4.heap.size := by have := hb4.size; simp at this; omega
          clear ho hO3 hO4 hba hb34 hb3 hb4
          cases k1
          · have HZ := hid (hbad.out (by simp))
            go_wp2
            go_ret2
            exact ⟨by rw [HZ.out]; exact SyRes.none_ _ _ _, bchain hbc ((by repeat' (first | exact Below.refl _ _ | (with_reducible first | assumption | exact Nat.le_refl _ | refine Below.alloc ?_ ?_ _ | refine Below.setCell ?_ ?_ _ | refine Below.drew ?_ | refine below_drewN ?_ _) | refine Below.trans ?_ (Below.mono (by assumption) ?_) | exact Below.size (by assumption) | omega | go_size | (simp at *; omega))) : Below wz.heap.size wz _)⟩
          · cases k2
            · have HZ := hid (hbad.out (by simp))
              go_wp2
              go_ret2
              exact ⟨by rw [HZ.out]; exact SyRes.none_ _ _ _, bchain hbc ((by repeat' (first | exact Below.refl _ _ | (with_reducible first | assumption | exact Nat.le_refl _ | refine Below.alloc ?_ ?_ _ | refine Below.setCell ?_ ?_ _ | refine Below.drew ?_ | refine below_drewN ?_ _) | refine Below.trans ?_ (Below.mono (by assumption) ?_) | exact Below.size (by assumption) | omega | go_size | (simp at *; omega))) : Below wz.heap.size wz _)⟩
            · have HG := hid (hgood.out rfl rfl)
              go_wp2_with (at_builtin; refine push_bt (HO4.out _) p1 p2 r1 r2 _ rfl _ _ rfl rfl rfl (by first | rfl | simp) (by omega) (by simp; omega) ?_; intro v5 w5 ho5 hb5 hg5)
              have hba5 : Below wz.heap.size w4 (w4.alloc (Obj.cells #[.int .i64 r1, .bool r2] 93)) := (by repeat' (first | exact Below.refl _ _ | (with_reducible first | assumption | exact Nat.le_refl _ | refine Below.alloc ?_ ?_ _ | refine Below.setCell ?_ ?_ _ | refine Below.drew ?_ | refine below_drewN ?_ _) | refine Below.trans ?_ (Below.mono (by assumption) ?_) | exact Below.size (by assumption) | omega | go_size | (simp at *; omega)))
              go_roundw
              case rel => exact hid ⟨m + 2, j + 1, by have := HM.out; have := hmj.out; omega, by go_num, by show _ = _; rw [hmj.out]; omega, by rw [hS.out]; exact ho5, hbW4.trans (hba5.trans hb5), HG.out⟩
              case measure => simp [intOf]; omega
        · have hmN : m = N := by omega
          have hjM : j = M := by have := HM.out; have := hmj.out; omega
          have hallk : (prP a).all btOk = true := hall.out.2 (by rw [HN.out, ← hmN]; exact hok.out)
          have HZ : Hid (rPair q = (prP a, 0)) := by show _ = _; rw [HO2.out, if_pos hallk]
          rw [List.take_of_length_le (by rw [hpl.out]; omega)] at ho
          clear hallk hok
          go_wp2
          go_ret2
          exact ⟨by rw [HZ.out]; exact SyRes.mk rfl (own_more ho hzc), bchain hbc hbr⟩
  | false =>
    rw [hp] at hV
    have hV := hid hV
    have HO : Hid (rPair q = ([], 1)) := by show _ = _; rw [rPair, if_neg (by rw [hp]; decide)]
    clear hr hp hlen
    go_enter Tryz.func132, Tryz.ntmps132
    go_wp2_with fail
    refine hV.out.mono ?_
    rintro e w1 ⟨rfl, hb1⟩
    go_wp2
    go_ret2
    exact ⟨by rw [HO.out]; exact SyRes.none_ _ _ _, (by repeat' (first | exact Below.refl _ _ | (with_reducible first | assumption | exact Nat.le_refl _ | refine Below.alloc ?_ ?_ _ | refine Below.setCell ?_ ?_ _ | refine Below.drew ?_ | refine below_drewN ?_ _) | refine Below.trans ?_ (Below.mono (by assumption) ?_) | exact Below.size (by assumption) | omega | go_size | (simp at *; omega)))⟩
end Go.Proofs.YtgphkfnobmponaaGreat

/- Contracts of the functions on kinds and characters of notations. -/
namespace Go.Proofs.YtgphkfnobmponaaGreat
open Go.RowKit
set_option linter.unusedVariables false

theorem u8x {x c : UInt8} : (((x.toNat : Int)) == (c.toNat : Int)) = decide (x = c) := by
  rw [Bool.eq_iff_iff]
  simp only [beq_iff_eq, Int.natCast_inj, decide_eq_true_eq]
  exact UInt8.toNat_inj
theorem dec_skip {x c : UInt8} {r : List UInt8} (h : x ≠ c) : decide (c ∈ x :: r) = decide (c ∈ r) := by
  have hc : ¬ c = x := fun e => h e.symm
  simp [hc]
theorem dec_hit {x c : UInt8} {r : List UInt8} (h : x = c) : decide (c ∈ x :: r) = true := by subst h; simp
theorem hasByte_any (s : ByteArray) (c : UInt8) (w : World) (hs : s.size ≤ 1099511627776) :
    Calls Tryz.prog 36 #[.string s, .int .u8 (c.toNat : Int)] w fun e w' => e = .returned (.bool (decide (c ∈ tl s))) ∧ w = w' := by
  have hst : Hid (decide (c ∈ (tl s).drop 0) = decide (c ∈ tl s)) := rfl
  generalize decide (c ∈ tl s) = R at *
  have hu := hid (fun (x : UInt8) => u8x (x := x) (c := c))
  obtain ⟨C, hC⟩ : ∃ C, (c.toNat : Int) = C := ⟨_, rfl⟩
  rw [hC] at hu ⊢
  clear hC
  go_enter Tryz.func36, Tryz.ntmps36
  go_wp2
  go_loop [8] (fun i => Hid (∃ k : Nat, k ≤ s.size ∧ i = .int .i64 k ∧ Hid (decide (c ∈ (tl s).drop k) = R))) (fun i => s.size - (intOf i).toNat)
  case atStart => exact hid ⟨0, Nat.zero_le _, rfl, hst⟩
  case round =>
    obtain ⟨k, hk, rfl, he⟩ := hrel.out
    clear hrel hst
    by_cases hlt : k < s.size
    · have he1 := he.out
      rw [tl_drop s k hlt] at he1
      by_cases hx : s[k]'hlt = c
      · rw [dec_hit hx] at he1
        have hq : (((s[k]'hlt).toNat : Int) == C) = true := by rw [hu.out]; exact decide_eq_true hx
        have HI := hid he1
        clear he hx hu he1
        go_wp2
        go_ret
        exact ⟨ret_bool HI.out, rfl⟩
      · rw [dec_skip hx] at he1
        have HI := hid he1
        have hq : (((s[k]'hlt).toNat : Int) == C) = false := by rw [hu.out]; exact decide_eq_false hx
        clear he hx hu he1
        go_wp2
        go_round
        case rel => exact hid ⟨k + 1, by omega, by go_num, HI⟩
        case measure => simp [intOf]; omega
    · have he1 := he.out
      rw [List.drop_eq_nil_of_le (by rw [tl_len]; omega)] at he1
      have HI : Hid (false = R) := by show _ = _; rw [← he1]; simp
      clear he hu he1
      go_wp2
      go_ret
      exact ⟨ret_bool HI.out, rfl⟩
theorem l07Has_any (s : ByteArray) (c : UInt8) (w : World) (hs : s.size ≤ 1099511627776) :
    Calls Tryz.prog 49 #[.string s, .int .u8 (c.toNat : Int)] w fun e w' => e = .returned (.bool (decide (c ∈ tl s))) ∧ w = w' := by
  have hst : Hid (decide (c ∈ (tl s).drop 0) = decide (c ∈ tl s)) := rfl
  generalize decide (c ∈ tl s) = R at *
  have hu := hid (fun (x : UInt8) => u8x (x := x) (c := c))
  obtain ⟨C, hC⟩ : ∃ C, (c.toNat : Int) = C := ⟨_, rfl⟩
  rw [hC] at hu ⊢
  clear hC
  go_enter Tryz.func49, Tryz.ntmps49
  go_wp2
  go_loop [5] (fun i => Hid (∃ k : Nat, k ≤ s.size ∧ i = .int .i64 k ∧ Hid (decide (c ∈ (tl s).drop k) = R))) (fun i => s.size - (intOf i).toNat)
  case atStart => exact hid ⟨0, Nat.zero_le _, rfl, hst⟩
  case round =>
    obtain ⟨k, hk, rfl, he⟩ := hrel.out
    clear hrel hst
    by_cases hlt : k < s.size
    · have he1 := he.out
      rw [tl_drop s k hlt] at he1
      by_cases hx : s[k]'hlt = c
      · rw [dec_hit hx] at he1
        have hq : (((s[k]'hlt).toNat : Int) == C) = true := by rw [hu.out]; exact decide_eq_true hx
        have HI := hid he1
        clear he hx hu he1
        go_wp2
        go_ret
        exact ⟨ret_bool HI.out, rfl⟩
      · rw [dec_skip hx] at he1
        have HI := hid he1
        have hq : (((s[k]'hlt).toNat : Int) == C) = false := by rw [hu.out]; exact decide_eq_false hx
        clear he hx hu he1
        go_wp2
        go_round
        case rel => exact hid ⟨k + 1, by omega, by go_num, HI⟩
        case measure => simp [intOf]; omega
    · have he1 := he.out
      rw [List.drop_eq_nil_of_le (by rw [tl_len]; omega)] at he1
      have HI : Hid (false = R) := by show _ = _; rw [← he1]; simp
      clear he hu he1
      go_wp2
      go_ret
      exact ⟨ret_bool HI.out, rfl⟩
theorem kinR_4 {l : List UInt8} (h : 60 ∈ l) : kinR l = 4 := by rw [kinR, if_pos h]
theorem kinR_3 {l : List UInt8} (h : 60 ∉ l) (h3 : 40 ∈ l) : kinR l = 3 := by rw [kinR, if_neg h, if_pos h3]
theorem kinR_2 {l : List UInt8} (h : 60 ∉ l) (h3 : 40 ∉ l) (h2 : 91 ∈ l) : kinR l = 2 := by rw [kinR, if_neg h, if_neg h3, if_pos h2]
theorem kinR_1 {l : List UInt8} (h : 60 ∉ l) (h3 : 40 ∉ l) (h2 : 91 ∉ l) : kinR l = 1 := by rw [kinR, if_neg h, if_neg h3, if_neg h2]
theorem KindOfText_any (s : ByteArray) (w : World) (hs : s.size ≤ 1099511627776) :
    Calls Tryz.prog 22 #[.string s] w fun e w' => e = .returned (.int .i64 (kinR (tl s) : Nat)) ∧ w = w' := by
  have h4 : Calls Tryz.prog 36 #[.string s, .int .u8 60] w fun e w' => e = .returned (.bool (decide (60 ∈ tl s))) ∧ w = w' := hasByte_any s 60 w hs
  have h3 : Calls Tryz.prog 36 #[.string s, .int .u8 40] w fun e w' => e = .returned (.bool (decide (40 ∈ tl s))) ∧ w = w' := hasByte_any s 40 w hs
  have h2 : Calls Tryz.prog 36 #[.string s, .int .u8 91] w fun e w' => e = .returned (.bool (decide (91 ∈ tl s))) ∧ w = w' := hasByte_any s 91 w hs
  by_cases k4 : 60 ∈ tl s
  · have HK := hid (kinR_4 k4)
    rw [decide_eq_true k4] at h4
    have h4 := hid h4
    clear h3 h2 k4
    go_enter Tryz.func22, Tryz.ntmps22
    go_wp2_with fail
    refine h4.out.mono ?_
    rintro e w1 ⟨rfl, rfl⟩
    go_wp2
    go_ret
    exact ⟨by rw [HK.out]; rfl, rfl⟩
  · rw [decide_eq_false k4] at h4
    by_cases k3 : 40 ∈ tl s
    · have HK := hid (kinR_3 k4 k3)
      rw [decide_eq_true k3] at h3
      have h4 := hid h4
      have h3 := hid h3
      clear h2 k4 k3
      go_enter Tryz.func22, Tryz.ntmps22
      go_wp2_with fail
      refine h4.out.mono ?_
      rintro e w1 ⟨rfl, rfl⟩
      go_wp2_with fail
      refine h3.out.mono ?_
      rintro e w1 ⟨rfl, rfl⟩
      go_wp2
      go_ret
      exact ⟨by rw [HK.out]; rfl, rfl⟩
    · rw [decide_eq_false k3] at h3
      by_cases k2 : 91 ∈ tl s
      · have HK := hid (kinR_2 k4 k3 k2)
        rw [decide_eq_true k2] at h2
        have h4 := hid h4
        have h3 := hid h3
        have h2 := hid h2
        clear k4 k3 k2
        go_enter Tryz.func22, Tryz.ntmps22
        go_wp2_with fail
        refine h4.out.mono ?_
        rintro e w1 ⟨rfl, rfl⟩
        go_wp2_with fail
        refine h3.out.mono ?_
        rintro e w1 ⟨rfl, rfl⟩
        go_wp2_with fail
        refine h2.out.mono ?_
        rintro e w1 ⟨rfl, rfl⟩
        go_wp2
        go_ret
        exact ⟨by rw [HK.out]; rfl, rfl⟩
      · have HK := hid (kinR_1 k4 k3 k2)
        rw [decide_eq_false k2] at h2
        have h4 := hid h4
        have h3 := hid h3
        have h2 := hid h2
        clear k4 k3 k2
        go_enter Tryz.func22, Tryz.ntmps22
        go_wp2_with fail
        refine h4.out.mono ?_
        rintro e w1 ⟨rfl, rfl⟩
        go_wp2_with fail
        refine h3.out.mono ?_
        rintro e w1 ⟨rfl, rfl⟩
        go_wp2_with fail
        refine h2.out.mono ?_
        rintro e w1 ⟨rfl, rfl⟩
        go_wp2
        go_ret
        exact ⟨by rw [HK.out]; rfl, rfl⟩
theorem specKindOfText_any (s : ByteArray) (w : World) (hs : s.size ≤ 1099511627776) :
    Calls Tryz.prog 16 #[.string s] w fun e w' => e = .returned (.int .i64 (kinR (tl s) : Nat)) ∧ w = w' := by
  have h4 : Calls Tryz.prog 49 #[.string s, .int .u8 60] w fun e w' => e = .returned (.bool (decide (60 ∈ tl s))) ∧ w = w' := l07Has_any s 60 w hs
  have h3 : Calls Tryz.prog 49 #[.string s, .int .u8 40] w fun e w' => e = .returned (.bool (decide (40 ∈ tl s))) ∧ w = w' := l07Has_any s 40 w hs
  have h2 : Calls Tryz.prog 49 #[.string s, .int .u8 91] w fun e w' => e = .returned (.bool (decide (91 ∈ tl s))) ∧ w = w' := l07Has_any s 91 w hs
  by_cases k4 : 60 ∈ tl s
  · have HK := hid (kinR_4 k4)
    rw [decide_eq_true k4] at h4
    have h4 := hid h4
    clear h3 h2 k4
    go_enter Tryz.func16, Tryz.ntmps16
    go_wp2_with fail
    refine h4.out.mono ?_
    rintro e w1 ⟨rfl, rfl⟩
    go_wp2
    go_ret
    exact ⟨by rw [HK.out]; rfl, rfl⟩
  · rw [decide_eq_false k4] at h4
    by_cases k3 : 40 ∈ tl s
    · have HK := hid (kinR_3 k4 k3)
      rw [decide_eq_true k3] at h3
      have h4 := hid h4
      have h3 := hid h3
      clear h2 k4 k3
      go_enter Tryz.func16, Tryz.ntmps16
      go_wp2_with fail
      refine h4.out.mono ?_
      rintro e w1 ⟨rfl, rfl⟩
      go_wp2_with fail
      refine h3.out.mono ?_
      rintro e w1 ⟨rfl, rfl⟩
      go_wp2
      go_ret
      exact ⟨by rw [HK.out]; rfl, rfl⟩
    · rw [decide_eq_false k3] at h3
      by_cases k2 : 91 ∈ tl s
      · have HK := hid (kinR_2 k4 k3 k2)
        rw [decide_eq_true k2] at h2
        have h4 := hid h4
        have h3 := hid h3
        have h2 := hid h2
        clear k4 k3 k2
        go_enter Tryz.func16, Tryz.ntmps16
        go_wp2_with fail
        refine h4.out.mono ?_
        rintro e w1 ⟨rfl, rfl⟩
        go_wp2_with fail
        refine h3.out.mono ?_
        rintro e w1 ⟨rfl, rfl⟩
        go_wp2_with fail
        refine h2.out.mono ?_
        rintro e w1 ⟨rfl, rfl⟩
        go_wp2
        go_ret
        exact ⟨by rw [HK.out]; rfl, rfl⟩
      · have HK := hid (kinR_1 k4 k3 k2)
        rw [decide_eq_false k2] at h2
        have h4 := hid h4
        have h3 := hid h3
        have h2 := hid h2
        clear k4 k3 k2
        go_enter Tryz.func16, Tryz.ntmps16
        go_wp2_with fail
        refine h4.out.mono ?_
        rintro e w1 ⟨rfl, rfl⟩
        go_wp2_with fail
        refine h3.out.mono ?_
        rintro e w1 ⟨rfl, rfl⟩
        go_wp2_with fail
        refine h2.out.mono ?_
        rintro e w1 ⟨rfl, rfl⟩
        go_wp2
        go_ret
        exact ⟨by rw [HK.out]; rfl, rfl⟩
theorem extras_any (k : Nat) (hk : k = 1 ∨ k = 2 ∨ k = 3 ∨ k = 4) (w : World) :
    Calls Tryz.prog 37 #[.int .i64 (k : Int)] w fun e w' => e = .returned (.string (st (exsR k))) ∧ w = w' := by
  rcases hk with rfl | rfl | rfl | rfl
  all_goals
    go_enter Tryz.func37, Tryz.ntmps37
    go_wp2
    go_ret
    exact ⟨rfl, rfl⟩
theorem chOk_dig {k : Nat} {c : UInt8} (h : 0 ≤ rDig (c.toNat : Int)) : chOk k c = true := by simp [chOk, h]
theorem chOk_ex {k : Nat} {c : UInt8} (h : ¬ 0 ≤ rDig (c.toNat : Int)) : chOk k c = decide (c ∈ exsR k) := by simp [chOk, h]
theorem l07Char_any (k : Nat) (hk : k = 1 ∨ k = 2 ∨ k = 3 ∨ k = 4) (c : UInt8) (w : World) :
    Calls Tryz.prog 41 #[.int .i64 (k : Int), .int .u8 (c.toNat : Int)] w fun e w' => e = .returned (.bool (chOk k c)) ∧ w = w' := by
  have hby : (c.toNat : Int) ≤ 255 := by have := c.toNat_lt; omega
  have hby0 : 0 ≤ (c.toNat : Int) := by omega
  have hD := l04Value_any (c.toNat : Int) hby0 hby w
  by_cases hd : 0 ≤ rDig (c.toNat : Int)
  · have HZ := hid (chOk_dig (k := k) hd)
    generalize rDig (c.toNat : Int) = d at *
    generalize (c.toNat : Int) = C at *
    have hD := hid hD
    go_enter Tryz.func41, Tryz.ntmps41
    go_wp2_with (go_at_call 72; refine (hD.out).mono ?_; rintro e w' ⟨rfl, rfl⟩)
    go_ret
    exact ⟨ret_bool HZ.out.symm, rfl⟩
  · have HZ := hid (chOk_ex (k := k) hd)
    rcases hk with rfl | rfl | rfl | rfl
    · generalize rDig (c.toNat : Int) = d at *
      generalize (c.toNat : Int) = C at *
      have hD := hid hD
      go_enter Tryz.func41, Tryz.ntmps41
      go_wp2_with (go_at_call 72; refine (hD.out).mono ?_; rintro e w' ⟨rfl, rfl⟩)
      go_ret
      exact ⟨by rw [HZ.out]; simp [exsR], rfl⟩
    · have hH := l07Has_any (st (exsR 2)) c w (by rw [st_size]; decide)
      rw [tl_st, ← HZ.out] at hH
      generalize rDig (c.toNat : Int) = d at *
      generalize (c.toNat : Int) = C at *
      have hD := hid hD
      have hH := hid hH
      go_enter Tryz.func41, Tryz.ntmps41
      go_wp2_with (first | (go_at_call 72; refine (hD.out).mono ?_; rintro e w' ⟨rfl, rfl⟩) | (go_at_call 49; refine (hH.out).mono ?_; rintro e w' ⟨rfl, rfl⟩))
      go_ret
      exact ⟨rfl, rfl⟩
    · have hH := l07Has_any (st (exsR 3)) c w (by rw [st_size]; decide)
      rw [tl_st, ← HZ.out] at hH
      generalize rDig (c.toNat : Int) = d at *
      generalize (c.toNat : Int) = C at *
      have hD := hid hD
      have hH := hid hH
      go_enter Tryz.func41, Tryz.ntmps41
      go_wp2_with (first | (go_at_call 72; refine (hD.out).mono ?_; rintro e w' ⟨rfl, rfl⟩) | (go_at_call 49; refine (hH.out).mono ?_; rintro e w' ⟨rfl, rfl⟩))
      go_ret
      exact ⟨rfl, rfl⟩
    · have hH := l07Has_any (st (exsR 4)) c w (by rw [st_size]; decide)
      rw [tl_st, ← HZ.out] at hH
      generalize rDig (c.toNat : Int) = d at *
      generalize (c.toNat : Int) = C at *
      have hD := hid hD
      have hH := hid hH
      go_enter Tryz.func41, Tryz.ntmps41
      go_wp2_with (first | (go_at_call 72; refine (hD.out).mono ?_; rintro e w' ⟨rfl, rfl⟩) | (go_at_call 49; refine (hH.out).mono ?_; rintro e w' ⟨rfl, rfl⟩))
      go_ret
      exact ⟨rfl, rfl⟩
end Go.Proofs.YtgphkfnobmponaaGreat
