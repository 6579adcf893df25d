/- The contract of the reference's PairUp. -/
import Derived.Test.YtjagejalchfhlaaYp
namespace Go.Proofs.Ytjagejalchfhlaa
open Go.RowKit
set_option linter.unusedVariables false

set_option maxRecDepth 100000 in
set_option maxHeartbeats 1000000 in
theorem specPairUp_any (A : Option Addr) (n c : Nat) (q : List Int) (w : World) (hn : n ≤ 1099511627776) (hr : Rd w w.heap.size 1 A n (ints q)) :
    Calls Try.prog 31 #[.slice A n c] w fun e w' => SyRes w.heap.size (rPair q) e w' ∧ Below w.heap.size w w' := by
  have hV := l02Ok_any A n c q w hn hr
  have hlen := hr.len
  cases hp : okP q with
  | true =>
    rw [hp] at hV
    have hV := hid hV
    obtain ⟨hqb, hn1, hn2⟩ := thOk_iff (okP_th hp)
    rw [hlen] at hn1 hn2
    have hA : A = none → c = 0 := by
      obtain ⟨b, off, e, _⟩ := hr.2 (by omega)
      intro h; rw [h] at e; cases e
    have HO : Hid (rPair q = (if 12 < (allP q).length then ([], 5) else if (prP (allP q)).all btOk then (prP (allP q), 0) else ([], 10))) := by show _ = _; rw [rPair, if_pos hp]
    have hab : ∀ x ∈ allP q, 0 ≤ x ∧ x ≤ 15 := by
      intro x hx
      unfold allP at hx
      split at hx
      · rcases List.mem_append.1 hx with h | h <;> exact hqb x h
      · exact hqb x hx
    obtain ⟨M, hM0⟩ := allP_len q
    have HM0 := hid hM0
    clear hM0
    have Hod := hid (show n % 2 = 1 → q ++ q = allP q from fun h => by rw [allP, if_pos (by rw [hlen]; exact h)])
    have Hev := hid (show ¬ n % 2 = 1 → q = allP q from fun h => by rw [allP, if_neg (by rw [hlen]; exact h)])
    have HR := hid (fun (w1 : World) (b : Below w.heap.size w w1) => ((hr.below b (Nat.le_refl _)).more b.size))
    have hOwn := hid (fun (w1 : World) (b : Below w.heap.size w w1) => l00Own_any A n c q w1 (by omega) hA ((hr.below b (Nat.le_refl _)).more b.size))
    have hM24 : (allP q).length ≤ 24 := by
      unfold allP; split
      · rw [List.length_append]; omega
      · omega
    have HA := hid hA
    have HQL := hid hlen
    clear hr hp hlen hqb hA
    generalize allP q = a at *
    go_enter Try.func31, Try.ntmps31
    go_wp2_with fail
    refine hV.out.mono ?_
    rintro e w1 ⟨rfl, hb1⟩
    have hz1 := hb1.size
    go_wp2_with fail
    refine (hOwn.out w1 hb1).mono ?_
    rintro e w2 ⟨v2, rfl, ho2, hb2⟩
    have hz12 := hb2.size
    have hb2 := bchain hb1 hb2
    have hz2 := hb2.size
    obtain ⟨A2, c2, rfl⟩ := own_form ho2
    go_upto_if 19 with fail
    go_cut [4] (fun s wx => Hid (∃ A' c', s = .slice A' a.length c' ∧ Rd wx wx.heap.size 1 A' a.length (ints a) ∧ Below w.heap.size w wx))
    case first =>
      by_cases hodd : n % 2 = 1
      · have hq : ((n : Int) % 2 == 1) = true := by simp; omega
        have hqa := Hod.out hodd
        have hR2 := HR.out w2 hb2
        have ho2' : w2.ownsRow w1.heap.size 2 1 (.slice A2 n c2) q.length (ints q) := by rw [HQL.out]; exact ho2
        have HO2' := hid ho2'
        have HR2 := hid hR2
        have hql12 : q.length ≤ 12 := by rw [HQL.out]; exact hn2
        have HQA := hid hqa
        clear hodd hR2 ho2 ho2' hqa
        go_wp2_with (at_builtin; refine app_ints (xs := q) HO2'.out A n c q HR2.out HA.out Try.underlying36 inf_int rfl rfl (.tmp 20) (.tmp 21) rfl rfl rfl (by omega) (by omega) ?_; intro v3 w3 ho3 hb3 hg3; rw [HQA.out] at ho3; obtain ⟨A3, c3, rfl⟩ := own_form ho3)
        go_meet
        exact hid ⟨A3, c3, rfl, Rd.of_own ho3, hb2.trans (hb3.mono (by omega))⟩
      · have hq : ((n : Int) % 2 == 1) = false := by simp; omega
        have hqa := Hev.out hodd
        have HQA := hid hqa
        clear hodd hqa
        go_wp2_with fail
        go_meet
        refine hid ⟨A2, c2, ?_, ?_, hb2⟩
        · rw [← HQA.out, HQL.out]
        · rw [← HQA.out, HQL.out]; exact Rd.of_own ho2
    case rest =>
    obtain ⟨A', c', rfl, hR, hbc⟩ := hcut.out
    clear hcut hb1 hOwn HR hz1 ho2 hb2 hz2
    have hzc := hbc.size
    obtain ⟨wz, rfl⟩ : ∃ wz : World, wz = wc := ⟨_, rfl⟩
    obtain ⟨N, hN⟩ : ∃ N, a.length = N := ⟨_, rfl⟩
    rw [hN] at hR hM24 HO ⊢
    have hM := HM0.out
    rw [hN] at hM
    have HN := hid hN
    have HM := hid hM
    have HRD := hid (fun (w1 : World) (b : Below wz.heap.size wz w1) => ((hR.below b (Nat.le_refl _)).more b.size))
    clear hR hN hM
    by_cases hbig : 12 < N
    · have HO : Hid (rPair q = ([], 5)) := by show _ = _; rw [HO.out, if_pos hbig]
      go_wp2
      go_ret2
      exact ⟨by rw [HO.out]; exact SyRes.none_ _ _ _, (by repeat' (first | exact Below.refl _ _ | (with_reducible assumption) | (with_reducible refine Below.alloc ?_ ?_ _) | (with_reducible refine Below.setCell ?_ ?_ _) | (with_reducible refine Below.drew ?_) | (with_reducible refine below_drewN ?_ _) | (refine Below.trans ?_ (Below.mono (by assumption) ?_)) | (with_reducible exact Nat.le_refl _) | (with_reducible assumption) | (exact Below.size (by assumption)) | omega | go_size | (simp at *; omega)))⟩
    · have HO2 : Hid (rPair q = (if (prP a).all btOk then (prP a, 0) else ([], 10))) := by show _ = _; rw [HO.out, if_neg hbig]
      have hall := hid (prP_all (n := M) (a := a) (by rw [HN.out, HM.out]))
      have hNl : N ≤ 12 := by omega
      have Hab := hid hab
      have hpl := hid (prP_len M a (by rw [HN.out, HM.out]))
      have hps := hid (fun (j : Nat) (h : j < M) => prP_step (n := M) (a := a) (by rw [HN.out, HM.out]) h)
      have hp0 : Hid ((prP a).take 0 = []) := by show _ = _; simp
      clear hab hbig
      go_wp2
      go_loopw [5, 6] (fun v i wr => Hid (∃ m j : Nat, m ≤ N ∧ i = .int .i64 m ∧ Hid (m = 2 * j) ∧ wr.ownsRow wz.heap.size 92 4 v ((prP a).take j).length (bts ((prP a).take j)) ∧ Below wz.heap.size wz wr ∧ Hid (∀ k, k < m → thrOk (bkT k (a.getD k 0)) = true))) (fun _ i _ => N - (intOf i).toNat)
      case atStart => exact hid ⟨0, 0, Nat.zero_le _, rfl, rfl, by rw [hp0.out]; exact World.ownsRow_lit _ _ 0 (Nat.le_refl _) (by simp [maxLen]) rfl, (by repeat' (first | exact Below.refl _ _ | (with_reducible assumption) | (with_reducible refine Below.alloc ?_ ?_ _) | (with_reducible refine Below.setCell ?_ ?_ _) | (with_reducible refine Below.drew ?_) | (with_reducible refine below_drewN ?_ _) | (refine Below.trans ?_ (Below.mono (by assumption) ?_)) | (with_reducible exact Nat.le_refl _) | (with_reducible assumption) | (exact Below.size (by assumption)) | omega | go_size | (simp at *; omega))), fun k hk => by omega⟩
      case round =>
        obtain ⟨m, j, hm, rfl, hmj, ho, hbr, hok⟩ := hrel.out
        clear hrel
        have hjl : ((prP a).take j).length ≤ 12 := by rw [List.length_take, hpl.out]; have := HM.out; omega
        have hzr := hbr.size
        by_cases hlt : m < N
        · have hm1 : m + 1 < N := by have := HM.out; have := hmj.out; omega
          obtain ⟨b, off, x, hA1, hb, hx, _, hc0⟩ := (HRD.out wr hbr).at_ hlt
          obtain ⟨b', off', y, hA2, hb', hy, _, hd0⟩ := (HRD.out wr hbr).at_ hm1
          subst hA1
          injection hA2 with hA2
          injection hA2 with e1 e2
          subst e1 e2
          obtain ⟨x0, x1⟩ := Hab.out x (List.mem_of_getElem? hx)
          obtain ⟨y0, y1⟩ := Hab.out y (List.mem_of_getElem? hy)
          have hX : Hid (a.getD (2 * j) 0 = x) := by show _ = _; rw [← hmj.out, List.getD_eq_getElem?_getD, hx]; rfl
          have hY : Hid (a.getD (2 * j + 1) 0 = y) := by show _ = _; rw [← hmj.out, List.getD_eq_getElem?_getD, hy]; rfl
          have hS := hid (hps.out j (by have := HM.out; have := hmj.out; omega))
          have e0 : bkT (2 * j) x = bkT 0 x := by rw [bkT_mod, show 2 * j % 2 = 0 by omega]
          have e1 : bkT (2 * j + 1) y = bkT 1 y := by rw [bkT_mod, show (2 * j + 1) % 2 = 1 by omega]
          rw [hX.out, hY.out, e0, e1] at hS
          have hbad := hid (fun (h : ¬ (thrOk (bkT 0 x) = true ∧ thrOk (bkT 1 y) = true)) => show rPair q = ([], 10) from by
            rw [HO2.out, if_neg]
            intro h2
            refine h ⟨?_, ?_⟩
            · have := (hall.out.1 h2) (2 * j) (by rw [HN.out, ← hmj.out]; exact hlt)
              rw [hX.out, e0] at this; exact this
            · have := (hall.out.1 h2) (2 * j + 1) (by rw [HN.out, ← hmj.out]; exact hm1)
              rw [hY.out, e1] at this; exact this)
          have hgood := hid (fun (h : thrOk (bkT 0 x) = true) (h' : thrOk (bkT 1 y) = true) => show ∀ k, k < m + 2 → thrOk (bkT k (a.getD k 0)) = true from fun k hk => by
            rcases Nat.lt_or_ge k m with h1 | h1
            · exact hok.out k h1
            · rcases (show k = 2 * j ∨ k = 2 * j + 1 by have := hmj.out; omega) with rfl | rfl
              · rw [hX.out, e0]; exact h
              · rw [hY.out, e1]; exact h')
          have hC1 := hid (fun w1 => show Calls Try.prog 114 #[.int .i64 x, .int .i64 0] w1 fun e w' => e = .returned (.tuple #[.agg #[.int .i64 (bkT 0 x).1, .bool (bkT 0 x).2], .bool (thrOk (bkT 0 x))]) ∧ Below w1.heap.size w1 w' from l05Back_any x 0 w1 x0 x1 (by omega))
          have hC2 := hid (fun w1 => show Calls Try.prog 114 #[.int .i64 y, .int .i64 1] w1 fun e w' => e = .returned (.tuple #[.agg #[.int .i64 (bkT 1 y).1, .bool (bkT 1 y).2], .bool (thrOk (bkT 1 y))]) ∧ Below w1.heap.size w1 w' from l05Back_any y 1 w1 y0 y1 (by omega))
          generalize bkT 0 x = t0 at *
          generalize bkT 1 y = t1 at *
          generalize (prP a).take j = out at *
          obtain ⟨p1, p2⟩ := t0
          obtain ⟨r1, r2⟩ := t1
          obtain ⟨k1, hk1⟩ : ∃ k1, thrOk (p1, p2) = k1 := ⟨_, rfl⟩
          obtain ⟨k2, hk2⟩ : ∃ k2, thrOk (r1, r2) = k2 := ⟨_, rfl⟩
          rw [hk1] at hbad hgood hC1
          rw [hk2] at hbad hgood hC2
          have hmi : (m : Int) < (N : Int) := by omega
          have hm1i : (m : Int) + 1 < (N : Int) := by omega
          clear hx hy hX hY e0 e1 hk1 hk2 hok hlt hm1
          go_wp2_with fail
          refine (hC1.out _).mono ?_
          rintro e w3 ⟨rfl, hb3⟩
          have hd3 : w3.cell? ⟨b, off + (m + 1), none⟩ = some (.int .i64 y) := (hb3.cell (p := ⟨b, off + (m + 1), none⟩) hb).trans hd0
          have hz3 := hb3.size
          have hbw3 : b < w3.heap.size := by omega
          have hbW3 := bchain hbr hb3
          have hO3 := own_below ho hb3
          clear hc0 hd0
          go_wp2_with fail
          refine (hC2.out _).mono ?_
          rintro e w4 ⟨rfl, hb4⟩
          have hv0 : w4.cell? ⟨w3.heap.size, 0, none⟩ = some (.int .i64 p1) := (hb4.cell (p := ⟨w3.heap.size, 0, none⟩) (by simp)).trans (by simp)
          have hv1 : w4.cell? ⟨w3.heap.size, 1, none⟩ = some (.bool p2) := (hb4.cell (p := ⟨w3.heap.size, 1, none⟩) (by simp)).trans (by simp)
          have hba : Below w3.heap.size w3 (w3.alloc (Obj.cells #[.int .i64 p1, .bool p2] 90)) := (by repeat' (first | exact Below.refl _ _ | (with_reducible assumption) | (with_reducible refine Below.alloc ?_ ?_ _) | (with_reducible refine Below.setCell ?_ ?_ _) | (with_reducible refine Below.drew ?_) | (with_reducible refine below_drewN ?_ _) | (refine Below.trans ?_ (Below.mono (by assumption) ?_)) | (with_reducible exact Nat.le_refl _) | (with_reducible assumption) | (exact Below.size (by assumption)) | omega | go_size | (simp at *; omega)))
          have hb34 : Below w3.heap.size w3 w4 := hba.trans (hb4.mono (by simp))
          have hO4 := own_below hO3 hb34
          have hbW4 := bchain hbW3 hb34
          have hz4 := hbW4.size
          have HO4 := hid (fun o => hO4.alloc o)
          have hl34 : w3.heap.size < w4.heap.size := by have := hb4.size; simp at this; omega
          clear ho hO3 hO4 hba hb34 hb3 hb4
          cases k1
          · have HZ := hid (hbad.out (by simp))
            go_wp2
            go_ret2
            exact ⟨by rw [HZ.out]; exact SyRes.none_ _ _ _, bchain hbc ((by repeat' (first | exact Below.refl _ _ | (with_reducible assumption) | (with_reducible refine Below.alloc ?_ ?_ _) | (with_reducible refine Below.setCell ?_ ?_ _) | (with_reducible refine Below.drew ?_) | (with_reducible refine below_drewN ?_ _) | (refine Below.trans ?_ (Below.mono (by assumption) ?_)) | (with_reducible exact Nat.le_refl _) | (with_reducible assumption) | (exact Below.size (by assumption)) | omega | go_size | (simp at *; omega))) : Below wz.heap.size wz _)⟩
          · cases k2
            · have HZ := hid (hbad.out (by simp))
              go_wp2
              go_ret2
              exact ⟨by rw [HZ.out]; exact SyRes.none_ _ _ _, bchain hbc ((by repeat' (first | exact Below.refl _ _ | (with_reducible assumption) | (with_reducible refine Below.alloc ?_ ?_ _) | (with_reducible refine Below.setCell ?_ ?_ _) | (with_reducible refine Below.drew ?_) | (with_reducible refine below_drewN ?_ _) | (refine Below.trans ?_ (Below.mono (by assumption) ?_)) | (with_reducible exact Nat.le_refl _) | (with_reducible assumption) | (exact Below.size (by assumption)) | omega | go_size | (simp at *; omega))) : Below wz.heap.size wz _)⟩
            · have HG := hid (hgood.out rfl rfl)
              go_wp2_with (at_builtin; refine push_bt (HO4.out _) p1 p2 r1 r2 _ rfl _ _ rfl rfl rfl (by first | rfl | simp) (by omega) (by simp; omega) ?_; intro v5 w5 ho5 hb5 hg5)
              have hba5 : Below wz.heap.size w4 (w4.alloc (Obj.cells #[.int .i64 r1, .bool r2] 90)) := (by repeat' (first | exact Below.refl _ _ | (with_reducible assumption) | (with_reducible refine Below.alloc ?_ ?_ _) | (with_reducible refine Below.setCell ?_ ?_ _) | (with_reducible refine Below.drew ?_) | (with_reducible refine below_drewN ?_ _) | (refine Below.trans ?_ (Below.mono (by assumption) ?_)) | (with_reducible exact Nat.le_refl _) | (with_reducible assumption) | (exact Below.size (by assumption)) | omega | go_size | (simp at *; omega)))
              go_roundw
              case rel => exact hid ⟨m + 2, j + 1, by have := HM.out; have := hmj.out; omega, by go_num, by show _ = _; rw [hmj.out]; omega, by rw [hS.out]; exact ho5, hbW4.trans (hba5.trans hb5), HG.out⟩
              case measure => simp [intOf]; omega
        · have hmN : m = N := by omega
          have hjM : j = M := by have := HM.out; have := hmj.out; omega
          have hallk : (prP a).all btOk = true := hall.out.2 (by rw [HN.out, ← hmN]; exact hok.out)
          have HZ : Hid (rPair q = (prP a, 0)) := by show _ = _; rw [HO2.out, if_pos hallk]
          rw [List.take_of_length_le (by rw [hpl.out]; omega)] at ho
          clear hallk hok
          go_wp2
          go_ret2
          exact ⟨by rw [HZ.out]; exact SyRes.mk rfl (own_more ho hzc), bchain hbc hbr⟩
  | false =>
    rw [hp] at hV
    have hV := hid hV
    have HO : Hid (rPair q = ([], 1)) := by show _ = _; rw [rPair, if_neg (by rw [hp]; decide)]
    clear hr hp hlen
    go_enter Try.func31, Try.ntmps31
    go_wp2_with fail
    refine hV.out.mono ?_
    rintro e w1 ⟨rfl, hb1⟩
    go_wp2
    go_ret2
    exact ⟨by rw [HO.out]; exact SyRes.none_ _ _ _, (by repeat' (first | exact Below.refl _ _ | (with_reducible assumption) | (with_reducible refine Below.alloc ?_ ?_ _) | (with_reducible refine Below.setCell ?_ ?_ _) | (with_reducible refine Below.drew ?_) | (with_reducible refine below_drewN ?_ _) | (refine Below.trans ?_ (Below.mono (by assumption) ?_)) | (with_reducible exact Nat.le_refl _) | (with_reducible assumption) | (exact Below.size (by assumption)) | omega | go_size | (simp at *; omega)))⟩
end Go.Proofs.Ytjagejalchfhlaa
