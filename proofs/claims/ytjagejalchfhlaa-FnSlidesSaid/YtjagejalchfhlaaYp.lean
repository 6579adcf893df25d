/- Contracts of PairUp. -/
import Derived.Test.YtjagejalchfhlaaYo
import Derived.Test.YtjagejalchfhlaaDw
namespace Go.Proofs.Ytjagejalchfhlaa
open Go.RowKit
set_option linter.unusedVariables false

/-- The throws of hands, one for each throw of a list. -/
def bkL (a : List Int) : List Thr := (List.range a.length).map fun k => bkT k (a.getD k 0)
theorem bkL_len (a : List Int) : (bkL a).length = a.length := by simp [bkL]
theorem bkL_at {a : List Int} {k : Nat} (h : k < a.length) : (bkL a)[k]? = some (bkT k (a.getD k 0)) := by
  rw [bkL, List.getElem?_map, List.getElem?_range h]; rfl
theorem bkL_step {a : List Int} {k : Nat} {x : Int} (hx : a[k]? = some x) : (bkL a).take (k + 1) = (bkL a).take k ++ [bkT k x] := by
  have h := (List.getElem?_eq_some_iff.1 hx).1
  rw [List.take_add_one, bkL_at h, List.getD_eq_getElem?_getD, hx]; rfl
theorem all_nth : ∀ {p : List Beat}, p.all btOk = true ↔ ∀ k, k < 2 * p.length → thrOk (nth p k) = true := by
  intro p
  induction p with
  | nil => simp
  | cons b p ih =>
    rw [List.all_cons, Bool.and_eq_true, ih]
    constructor
    · rintro ⟨h1, h2⟩ k hk
      simp only [btOk, Bool.and_eq_true] at h1
      match k, hk with
      | 0, _ => exact h1.1
      | 1, _ => exact h1.2
      | k + 2, hk => rw [nth_cons]; exact h2 k (by rw [List.length_cons] at hk; omega)
    · intro h
      refine ⟨?_, fun k hk => ?_⟩
      · simp only [btOk, Bool.and_eq_true]
        exact ⟨h 0 (by rw [List.length_cons]; omega), h 1 (by rw [List.length_cons]; omega)⟩
      · have := h (k + 2) (by rw [List.length_cons]; omega)
        rwa [nth_cons] at this
theorem prP_all {n : Nat} {a : List Int} (h : a.length = 2 * n) : (prP a).all btOk = true ↔ ∀ k, k < a.length → thrOk (bkT k (a.getD k 0)) = true := by
  rw [all_nth, prP_len n a h, h]
  constructor
  · intro g k hk; rw [← prP_nth n a h k hk]; exact g k hk
  · intro g k hk; rw [prP_nth n a h k hk]; exact g k hk
theorem prP_step {n : Nat} {a : List Int} (h : a.length = 2 * n) {j : Nat} (hj : j < n) : (prP a).take (j + 1) = (prP a).take j ++ [(bkT (2 * j) (a.getD (2 * j) 0), bkT (2 * j + 1) (a.getD (2 * j + 1) 0))] := by
  have hl := prP_len n a h
  have h0 := prP_nth n a h (2 * j) (by omega)
  have h1 := prP_nth n a h (2 * j + 1) (by omega)
  have e0 : nth (prP a) (2 * j) = ((prP a).getD j b0).1 := by unfold nth; rw [if_pos (by omega), show 2 * j / 2 = j by omega]
  have e1 : nth (prP a) (2 * j + 1) = ((prP a).getD j b0).2 := by unfold nth; rw [if_neg (by omega), show (2 * j + 1) / 2 = j by omega]
  rw [← h0, ← h1, e0, e1, List.take_add_one, List.getElem?_eq_getElem (by omega), List.getD_eq_getElem?_getD, List.getElem?_eq_getElem (by omega)]; rfl
theorem bkT_odd {k : Nat} {x : Int} (h : x % 2 = 1) : bkT k x = (x + (2 * ((k : Int) % 2) - 1), true) := by
  rw [bkT, if_pos h]; exact Prod.ext (by simp) rfl
theorem bkT_even {k : Nat} {x : Int} (h : ¬ x % 2 = 1) : bkT k x = (x, false) := by rw [bkT, if_neg h]
theorem inf_st : (Try.prog.info? 90).map (fun i => (i.zero, i.size, i.bytes)) = some (some (.agg #[.int .i64 0, .bool false]), 2, 16) := by kernel_rfl
set_option maxHeartbeats 400000 in
theorem l05Back_any (x : Int) (k : Nat) (w : World) (x0 : 0 ≤ x) (x1 : x ≤ 15) (hk : k < 2) :
    Calls Try.prog 114 #[.int .i64 x, .int .i64 (k : Int)] w fun e w' => e = .returned (.tuple #[.agg #[.int .i64 (bkT k x).1, .bool (bkT k x).2], .bool (thrOk (bkT k x))]) ∧ Below w.heap.size w w' := by
  by_cases hx : x % 2 = 1
  · have hq : (x % 2 == 1) = true := by simpa using hx
    rw [bkT_odd hx]
    have hkk : k = 0 ∨ k = 1 := by omega
    rcases hkk with rfl | rfl
    · have hy : x + (2 * (((0 : Nat) : Int) % 2) - 1) = x - 1 := by simp; omega
      rw [hy]
      have hT := hid (fun w1 => l05Throw_any (x - 1) true w1)
      generalize thrOk (x - 1, true) = tb at *
      clear hy hx
      go_enter Try.func114, Try.ntmps114
      go_wp2
      go_region_held3 (fun w' => w'.cell? ⟨w.heap.size + 1, 0, none⟩ = some (.int .i64 (x - 1)) ∧ w'.cell? ⟨w.heap.size + 1, 1, none⟩ = some (.bool true)) (go_keep) ((go_at_call 169; refine (hT.out _).mono ?_; rintro e w5 ⟨rfl, hb5⟩; have hcl := (fun o => hb5.cell (p := ⟨w.heap.size, o, none⟩) (by first | (simp; done) | (simp; omega))); have hfl := (fun o => hb5.frozen (p := ⟨w.heap.size, o, none⟩) (by first | (simp; done) | (simp; omega))); have hcl2 := (fun o => hb5.cell (p := ⟨w.heap.size + 1, o, none⟩) (by first | (simp; done) | (simp; omega)))))
      all_goals
        go_wp2
        refine bodyPost_ret (v := .tuple #[.agg #[.int .i64 (x - 1), .bool true], .bool tb]) ?_ rfl ⟨rfl, ?_⟩
        · simp (maxDischargeDepth := 8) [results, Try.results114, go_sem, *]
        · exact (by repeat' (first | exact Below.refl _ _ | (with_reducible assumption) | (with_reducible refine Below.alloc ?_ ?_ _) | (with_reducible refine Below.setCell ?_ ?_ _) | (with_reducible refine Below.drew ?_) | (with_reducible refine below_drewN ?_ _) | (refine Below.trans ?_ (Below.mono (by assumption) ?_)) | (with_reducible exact Nat.le_refl _) | (with_reducible assumption) | (exact Below.size (by assumption)) | omega | go_size | (simp at *; omega)))
    · have hy : x + (2 * (((1 : Nat) : Int) % 2) - 1) = x + 1 := by simp
      rw [hy]
      have hT := hid (fun w1 => l05Throw_any (x + 1) true w1)
      generalize thrOk (x + 1, true) = tb at *
      clear hy hx
      go_enter Try.func114, Try.ntmps114
      go_wp2
      go_region_held3 (fun w' => w'.cell? ⟨w.heap.size + 1, 0, none⟩ = some (.int .i64 (x + 1)) ∧ w'.cell? ⟨w.heap.size + 1, 1, none⟩ = some (.bool true)) (go_keep) ((go_at_call 169; refine (hT.out _).mono ?_; rintro e w5 ⟨rfl, hb5⟩; have hcl := (fun o => hb5.cell (p := ⟨w.heap.size, o, none⟩) (by first | (simp; done) | (simp; omega))); have hfl := (fun o => hb5.frozen (p := ⟨w.heap.size, o, none⟩) (by first | (simp; done) | (simp; omega))); have hcl2 := (fun o => hb5.cell (p := ⟨w.heap.size + 1, o, none⟩) (by first | (simp; done) | (simp; omega)))))
      all_goals
        go_wp2
        refine bodyPost_ret (v := .tuple #[.agg #[.int .i64 (x + 1), .bool true], .bool tb]) ?_ rfl ⟨rfl, ?_⟩
        · simp (maxDischargeDepth := 8) [results, Try.results114, go_sem, *]
        · exact (by repeat' (first | exact Below.refl _ _ | (with_reducible assumption) | (with_reducible refine Below.alloc ?_ ?_ _) | (with_reducible refine Below.setCell ?_ ?_ _) | (with_reducible refine Below.drew ?_) | (with_reducible refine below_drewN ?_ _) | (refine Below.trans ?_ (Below.mono (by assumption) ?_)) | (with_reducible exact Nat.le_refl _) | (with_reducible assumption) | (exact Below.size (by assumption)) | omega | go_size | (simp at *; omega)))
  · have hq : (x % 2 == 1) = false := by simpa using hx
    rw [bkT_even hx]
    · have hT := hid (fun w1 => l05Throw_any x false w1)
      generalize thrOk (x, false) = tb at *
      clear hx
      go_enter Try.func114, Try.ntmps114
      go_wp2
      go_region_held3 (fun w' => w'.cell? ⟨w.heap.size + 1, 0, none⟩ = some (.int .i64 x) ∧ w'.cell? ⟨w.heap.size + 1, 1, none⟩ = some (.bool false)) (go_keep) ((go_at_call 169; refine (hT.out _).mono ?_; rintro e w5 ⟨rfl, hb5⟩; have hcl := (fun o => hb5.cell (p := ⟨w.heap.size, o, none⟩) (by first | (simp; done) | (simp; omega))); have hfl := (fun o => hb5.frozen (p := ⟨w.heap.size, o, none⟩) (by first | (simp; done) | (simp; omega))); have hcl2 := (fun o => hb5.cell (p := ⟨w.heap.size + 1, o, none⟩) (by first | (simp; done) | (simp; omega)))))
      all_goals
        go_wp2
        refine bodyPost_ret (v := .tuple #[.agg #[.int .i64 x, .bool false], .bool tb]) ?_ rfl ⟨rfl, ?_⟩
        · simp (maxDischargeDepth := 8) [results, Try.results114, go_sem, *]
        · exact (by repeat' (first | exact Below.refl _ _ | (with_reducible assumption) | (with_reducible refine Below.alloc ?_ ?_ _) | (with_reducible refine Below.setCell ?_ ?_ _) | (with_reducible refine Below.drew ?_) | (with_reducible refine below_drewN ?_ _) | (refine Below.trans ?_ (Below.mono (by assumption) ?_)) | (with_reducible exact Nat.le_refl _) | (with_reducible assumption) | (exact Below.size (by assumption)) | omega | go_size | (simp at *; omega)))
set_option maxRecDepth 100000 in
set_option maxHeartbeats 1000000 in
theorem PairUp_any (A : Option Addr) (n c : Nat) (q : List Int) (w : World) (hn : n ≤ 1099511627776) (hr : Rd w w.heap.size 1 A n (ints q)) :
    Calls Try.prog 30 #[.slice A n c] w fun e w' => SyRes w.heap.size (rPair q) e w' ∧ Below w.heap.size w w' := by
  have hV := ValidPattern_any A n c q w hn hr
  have hlen := hr.len
  cases hp : okP q with
  | true =>
    rw [hp] at hV
    have hV := hid hV
    obtain ⟨hqb, hn1, hn2⟩ := thOk_iff (okP_th hp)
    rw [hlen] at hn1 hn2
    have HO : Hid (rPair q = (if 12 < (allP q).length then ([], 5) else if (prP (allP q)).all btOk then (prP (allP q), 0) else ([], 10))) := by show _ = _; rw [rPair, if_pos hp]
    have hab : ∀ x ∈ allP q, 0 ≤ x ∧ x ≤ 15 := by
      intro x hx
      unfold allP at hx
      split at hx
      · rcases List.mem_append.1 hx with h | h <;> exact hqb x h
      · exact hqb x hx
    obtain ⟨M, hM0⟩ := allP_len q
    have HM0 := hid hM0
    clear hM0
    have hod : n % 2 = 1 → (repP q 2) = allP q := fun h => (allP_rep (by rw [hlen]; exact h)).symm
    have hev : ¬ n % 2 = 1 → q = allP q := fun h => by rw [allP, if_neg (by rw [hlen]; exact h)]
    have hRep := hid (fun (w1 : World) (b : Below w.heap.size w w1) => repeated_ok A n c q 2 w1 hn1 hn2 (by omega) ((hr.below b (Nat.le_refl _)).more b.size))
    have HR := hid (fun (w1 : World) (b : Below w.heap.size w w1) => ((hr.below b (Nat.le_refl _)).more b.size))
    have hM24 : (allP q).length ≤ 24 := by
      unfold allP; split
      · rw [List.length_append]; omega
      · omega
    have Hod := hid hod
    have Hev := hid hev
    clear hr hp hlen hod hev hqb
    generalize allP q = a at *
    go_enter Try.func30, Try.ntmps30
    go_wp2_with fail
    refine hV.out.mono ?_
    rintro e w1 ⟨rfl, hb1⟩
    have hz1 := hb1.size
    go_upto_if 16 with fail
    go_cut [0] (fun s wx => Hid (∃ A' c', s = .slice A' a.length c' ∧ Rd wx wx.heap.size 1 A' a.length (ints a) ∧ Below w.heap.size w wx))
    case first =>
      by_cases hodd : n % 2 = 1
      · have hq : ((n : Int) % 2 == 1) = true := by simp; omega
        have hRr := hid (hRep.out w1 hb1)
        rw [Hod.out hodd] at hRr
        clear hodd
        go_wp2_with fail
        refine hRr.out.mono ?_
        rintro e w2 ⟨v2, rfl, ho2, hb2⟩
        obtain ⟨A2, c2, rfl⟩ := own_form ho2
        go_wp2_with fail
        go_meet
        exact hid ⟨A2, c2, rfl, Rd.of_own ho2, bchain hb1 hb2⟩
      · have hq : ((n : Int) % 2 == 1) = false := by simp; omega
        have hR1 := HR.out w1 hb1
        have hqa := Hev.out hodd
        have hqn : q.length = n := hR1.len
        clear hodd
        go_wp2_with fail
        go_meet
        refine hid ⟨A, c, ?_, ?_, hb1⟩
        · rw [← hqa, hqn]
        · rw [← hqa, hqn]; exact hR1
    case rest =>
    obtain ⟨A', c', rfl, hR, hbc⟩ := hcut.out
    clear hcut hb1 hRep HR hz1
    have hzc := hbc.size
    obtain ⟨wz, rfl⟩ : ∃ wz : World, wz = wc := ⟨_, rfl⟩
    obtain ⟨N, hN⟩ : ∃ N, a.length = N := ⟨_, rfl⟩
    rw [hN] at hR hM24 HO ⊢
    have hM := HM0.out
    rw [hN] at hM
    have HN := hid hN
    have HM := hid hM
    have HRD := hid (fun (w1 : World) (b : Below wz.heap.size wz w1) => ((hR.below b (Nat.le_refl _)).more b.size))
    clear hR hN hM
    by_cases hbig : 12 < N
    · have HO : Hid (rPair q = ([], 5)) := by show _ = _; rw [HO.out, if_pos hbig]
      go_wp2
      go_ret2
      exact ⟨by rw [HO.out]; exact SyRes.none_ _ _ _, (by repeat' (first | exact Below.refl _ _ | (with_reducible assumption) | (with_reducible refine Below.alloc ?_ ?_ _) | (with_reducible refine Below.setCell ?_ ?_ _) | (with_reducible refine Below.drew ?_) | (with_reducible refine below_drewN ?_ _) | (refine Below.trans ?_ (Below.mono (by assumption) ?_)) | (with_reducible exact Nat.le_refl _) | (with_reducible assumption) | (exact Below.size (by assumption)) | omega | go_size | (simp at *; omega)))⟩
    · have HO2 : Hid (rPair q = (if (prP a).all btOk then (prP a, 0) else ([], 10))) := by show _ = _; rw [HO.out, if_neg hbig]
      have hall := hid (prP_all (n := M) (a := a) (by rw [HN.out, HM.out]))
      have hNl : N ≤ 12 := by omega
      have Hab := hid hab
      have hbk := hid (fun (k : Nat) (x : Int) (h : a[k]? = some x) => bkL_step h)
      have hb0 : Hid ((bkL a).take 0 = []) := by show _ = _; simp
      clear hab hbig
      go_wp2
      go_loopw [4, 25] (fun v i wr => Hid (∃ k : Nat, k ≤ N ∧ i = .int .i64 k ∧ wr.ownsRow wz.heap.size 90 2 v ((bkL a).take k).length (ths ((bkL a).take k)) ∧ Below wz.heap.size wz wr ∧ Hid (∀ j, j < k → thrOk (bkT j (a.getD j 0)) = true))) (fun _ i _ => N - (intOf i).toNat)
      case atStart => exact hid ⟨0, Nat.zero_le _, rfl, by rw [hb0.out]; exact World.ownsRow_lit _ _ 0 (by omega) (by simp [maxLen]) rfl, (by repeat' (first | exact Below.refl _ _ | (with_reducible assumption) | (with_reducible refine Below.alloc ?_ ?_ _) | (with_reducible refine Below.setCell ?_ ?_ _) | (with_reducible refine Below.drew ?_) | (with_reducible refine below_drewN ?_ _) | (refine Below.trans ?_ (Below.mono (by assumption) ?_)) | (with_reducible exact Nat.le_refl _) | (with_reducible assumption) | (exact Below.size (by assumption)) | omega | go_size | (simp at *; omega))), fun j hj => by omega⟩
      case round =>
        obtain ⟨k, hk, rfl, ho, hbr, hok⟩ := hrel.out
        clear hrel
        have hzr := hbr.size
        have hol : ((bkL a).take k).length ≤ 12 := by rw [List.length_take]; omega
        by_cases hlt : k < N
        · obtain ⟨b, off, x, rfl, hb, hx, _, hc⟩ := (HRD.out wr hbr).at_ hlt
          obtain ⟨x0, x1⟩ := Hab.out x (List.mem_of_getElem? hx)
          have hS := hid (hbk.out k x hx)
          have hXD : Hid (a.getD k 0 = x) := by show _ = _; rw [List.getD_eq_getElem?_getD, hx]; rfl
          have hokn := hid (fun (h : thrOk (bkT k x) = true) => show ∀ j, j < k + 1 → thrOk (bkT j (a.getD j 0)) = true from fun j hj => by
            rcases Nat.lt_or_eq_of_le (Nat.le_of_lt_succ hj) with h1 | h1
            · exact hok.out j h1
            · subst h1; rw [hXD.out]; exact h)
          have hbad := hid (fun (h : thrOk (bkT k x) = false) => show rPair q = ([], 10) from by
            rw [HO2.out, if_neg]
            intro h2
            have := (hall.out.1 h2) k (by rw [HN.out]; exact hlt)
            rw [hXD.out, h] at this; cases this)
          generalize (bkL a).take k = out at *
          have hki : (k : Int) < (N : Int) := by omega
          clear hx hok hXD hb
          by_cases hodd : x % 2 = 1
          · have hq : (x % 2 == 1) = true := by simpa using hodd
            rw [bkT_odd hodd] at hS hokn hbad
            obtain ⟨y, hy⟩ : ∃ y, x + (2 * ((k : Int) % 2) - 1) = y := ⟨_, rfl⟩
            rw [hy] at hS hokn hbad
            clear hodd
            have hT := isSyncThrow_any y true (wr.alloc (Obj.cells #[.int .i64 y, .bool true] 90))
            cases htb : thrOk (y, true) with
            | true =>
              rw [htb] at hT
              have hT := hid hT
              have hokn := hid (hokn.out htb)
              clear hbad htb
              go_wp2_with fail
              refine hT.out.mono ?_
              rintro e w3 ⟨rfl, hb3⟩
              obtain ⟨hc3, hf3, hz3, hl3⟩ := bcell hb3
              have hv0 : w3.cell? ⟨wr.heap.size, 0, none⟩ = some (.int .i64 y) := (hb3.cell (p := ⟨wr.heap.size, 0, none⟩) (by simp)).trans (by simp)
              have hv1 : w3.cell? ⟨wr.heap.size, 1, none⟩ = some (.bool true) := (hb3.cell (p := ⟨wr.heap.size, 1, none⟩) (by simp)).trans (by simp)
              have hba : Below wr.heap.size wr (wr.alloc (Obj.cells #[.int .i64 y, .bool true] 90)) := (by repeat' (first | exact Below.refl _ _ | (with_reducible assumption) | (with_reducible refine Below.alloc ?_ ?_ _) | (with_reducible refine Below.setCell ?_ ?_ _) | (with_reducible refine Below.drew ?_) | (with_reducible refine below_drewN ?_ _) | (refine Below.trans ?_ (Below.mono (by assumption) ?_)) | (with_reducible exact Nat.le_refl _) | (with_reducible assumption) | (exact Below.size (by assumption)) | omega | go_size | (simp at *; omega)))
              have hb3' : Below wr.heap.size wr w3 := hba.trans (hb3.mono (by simp))
              have ho := own_below ho hb3'
              have hb3 := bchain hbr hb3'
              have hz3 := hb3.size
              have HO3 := hid ho
              clear ho hba hb3' hc3 hf3 hl3
              go_wp2_with (at_builtin; refine push_th Try.underlying100 inf_st (by omega) HO3.out y true _ rfl _ _ rfl rfl rfl (by first | rfl | simp) (by omega) (by omega) ?_; intro v4 w4 ho4 hb4 hg4)
              go_roundw
              case rel => exact hid ⟨k + 1, by omega, by go_num, by rw [hS.out]; exact ho4, hb3.trans hb4, hokn.out⟩
              case measure => simp [intOf]; omega
            | false =>
              rw [htb] at hT
              have hT := hid hT
              have HZ := hid (hbad.out htb)
              clear hokn htb
              go_wp2_with fail
              refine hT.out.mono ?_
              rintro e w3 ⟨rfl, hb3⟩
              go_wp2
              go_ret2
              have hba : Below wr.heap.size wr (wr.alloc (Obj.cells #[.int .i64 y, .bool true] 90)) := (by repeat' (first | exact Below.refl _ _ | (with_reducible assumption) | (with_reducible refine Below.alloc ?_ ?_ _) | (with_reducible refine Below.setCell ?_ ?_ _) | (with_reducible refine Below.drew ?_) | (with_reducible refine below_drewN ?_ _) | (refine Below.trans ?_ (Below.mono (by assumption) ?_)) | (with_reducible exact Nat.le_refl _) | (with_reducible assumption) | (exact Below.size (by assumption)) | omega | go_size | (simp at *; omega)))
              have hb3' : Below wr.heap.size wr w3 := hba.trans (hb3.mono (by simp))
              exact ⟨by rw [HZ.out]; exact SyRes.none_ _ _ _, bchain hbc (bchain hbr hb3')⟩
          · have hq : (x % 2 == 1) = false := by simpa using hodd
            rw [bkT_even hodd] at hS hokn hbad
            clear hodd
            have hT := isSyncThrow_any x false (wr.alloc (Obj.cells #[.int .i64 x, .bool false] 90))
            cases htb : thrOk (x, false) with
            | true =>
              rw [htb] at hT
              have hT := hid hT
              have hokn := hid (hokn.out htb)
              clear hbad htb
              go_wp2_with fail
              refine hT.out.mono ?_
              rintro e w3 ⟨rfl, hb3⟩
              obtain ⟨hc3, hf3, hz3, hl3⟩ := bcell hb3
              have hv0 : w3.cell? ⟨wr.heap.size, 0, none⟩ = some (.int .i64 x) := (hb3.cell (p := ⟨wr.heap.size, 0, none⟩) (by simp)).trans (by simp)
              have hv1 : w3.cell? ⟨wr.heap.size, 1, none⟩ = some (.bool false) := (hb3.cell (p := ⟨wr.heap.size, 1, none⟩) (by simp)).trans (by simp)
              have hba : Below wr.heap.size wr (wr.alloc (Obj.cells #[.int .i64 x, .bool false] 90)) := (by repeat' (first | exact Below.refl _ _ | (with_reducible assumption) | (with_reducible refine Below.alloc ?_ ?_ _) | (with_reducible refine Below.setCell ?_ ?_ _) | (with_reducible refine Below.drew ?_) | (with_reducible refine below_drewN ?_ _) | (refine Below.trans ?_ (Below.mono (by assumption) ?_)) | (with_reducible exact Nat.le_refl _) | (with_reducible assumption) | (exact Below.size (by assumption)) | omega | go_size | (simp at *; omega)))
              have hb3' : Below wr.heap.size wr w3 := hba.trans (hb3.mono (by simp))
              have ho := own_below ho hb3'
              have hb3 := bchain hbr hb3'
              have hz3 := hb3.size
              have HO3 := hid ho
              clear ho hba hb3' hc3 hf3 hl3
              go_wp2_with (at_builtin; refine push_th Try.underlying100 inf_st (by omega) HO3.out x false _ rfl _ _ rfl rfl rfl (by first | rfl | simp) (by omega) (by omega) ?_; intro v4 w4 ho4 hb4 hg4)
              go_roundw
              case rel => exact hid ⟨k + 1, by omega, by go_num, by rw [hS.out]; exact ho4, hb3.trans hb4, hokn.out⟩
              case measure => simp [intOf]; omega
            | false =>
              rw [htb] at hT
              have hT := hid hT
              have HZ := hid (hbad.out htb)
              clear hokn htb
              go_wp2_with fail
              refine hT.out.mono ?_
              rintro e w3 ⟨rfl, hb3⟩
              go_wp2
              go_ret2
              have hba : Below wr.heap.size wr (wr.alloc (Obj.cells #[.int .i64 x, .bool false] 90)) := (by repeat' (first | exact Below.refl _ _ | (with_reducible assumption) | (with_reducible refine Below.alloc ?_ ?_ _) | (with_reducible refine Below.setCell ?_ ?_ _) | (with_reducible refine Below.drew ?_) | (with_reducible refine below_drewN ?_ _) | (refine Below.trans ?_ (Below.mono (by assumption) ?_)) | (with_reducible exact Nat.le_refl _) | (with_reducible assumption) | (exact Below.size (by assumption)) | omega | go_size | (simp at *; omega)))
              have hb3' : Below wr.heap.size wr w3 := hba.trans (hb3.mono (by simp))
              exact ⟨by rw [HZ.out]; exact SyRes.none_ _ _ _, bchain hbc (bchain hbr hb3')⟩
        · have hkn : k = N := by omega
          subst hkn
          have hbl := bkL_len a
          rw [HN.out] at hbl
          rw [List.take_of_length_le (by omega), hbl] at ho
          have hallk : (prP a).all btOk = true := hall.out.2 (by rw [HN.out]; exact hok.out)
          have HZ : Hid (rPair q = (prP a, 0)) := by show _ = _; rw [HO2.out, if_pos hallk]
          have hpl := hid (prP_len M a (by rw [HN.out, HM.out]))
          have hps := hid (fun (j : Nat) (h : j < M) => prP_step (n := M) (a := a) (by rw [HN.out, HM.out]) h)
          have hp0 : Hid ((prP a).take 0 = []) := by show _ = _; simp
          have HBL := hid hbl
          obtain ⟨At, ct, rfl⟩ := own_form ho
          have hWT := hid (fun g (h : (Value.slice At k ct).ownBlock = some g) => (ho.lt g h).2)
          have hoa := ho.alloc (Obj.cells #[] 92)
          clear hallk hok hbl
          go_wp2
          obtain ⟨wi, rfl⟩ : ∃ wi : World, wi = wr := ⟨_, rfl⟩
          go_loopw [8, 9] (fun v i wr => Hid (∃ m j : Nat, m ≤ k ∧ i = .int .i64 m ∧ Hid (m = 2 * j) ∧ wr.ownsRow wi.heap.size 92 4 v ((prP a).take j).length (bts ((prP a).take j)) ∧ wr.ownsRow wz.heap.size 90 2 (.slice At k ct) k (ths (bkL a)) ∧ Below wz.heap.size wz wr ∧ wi.heap.size ≤ wr.heap.size)) (fun _ i _ => k - (intOf i).toNat)
          case atStart => exact hid ⟨0, 0, Nat.zero_le _, rfl, rfl, by rw [hp0.out]; exact World.ownsRow_lit _ _ 0 (Nat.le_refl _) (by simp [maxLen]) rfl, hoa, (by repeat' (first | exact Below.refl _ _ | (with_reducible assumption) | (with_reducible refine Below.alloc ?_ ?_ _) | (with_reducible refine Below.setCell ?_ ?_ _) | (with_reducible refine Below.drew ?_) | (with_reducible refine below_drewN ?_ _) | (refine Below.trans ?_ (Below.mono (by assumption) ?_)) | (with_reducible exact Nat.le_refl _) | (with_reducible assumption) | (exact Below.size (by assumption)) | omega | go_size | (simp at *; omega))), by simp⟩
          case round =>
            obtain ⟨m, j, hm, rfl, hmj, ho2, hoT, hbr, hzz⟩ := hrel.out
            clear hrel ho hoa
            have hjl : ((prP a).take j).length ≤ 12 := by rw [List.length_take, hpl.out]; have := HM.out; omega
            by_cases hlt : m < k
            · have hm1 : m + 1 < k := by have := HM.out; have := hmj.out; omega
              obtain ⟨b, off, x, hA1, hb, hx, _, hc0, hc1⟩ := (Rd.of_own hoT).th_at hlt
              obtain ⟨b', off', x', hA2, hb', hx', _, hd0, hd1⟩ := (Rd.of_own hoT).th_at hm1
              subst hA1
              injection hA2 with hA2
              injection hA2 with e1 e2
              subst e1 e2
              have hX : Hid (bkT (2 * j) (a.getD (2 * j) 0) = x) := by
                show _ = _
                have h := bkL_at (a := a) (k := m) (by rw [HN.out]; exact hlt)
                rw [hx] at h
                rw [← hmj.out]; exact (Option.some.inj h).symm
              have hX' : Hid (bkT (2 * j + 1) (a.getD (2 * j + 1) 0) = x') := by
                show _ = _
                have h := bkL_at (a := a) (k := m + 1) (by rw [HN.out]; exact hm1)
                rw [hx'] at h
                rw [← hmj.out]; exact (Option.some.inj h).symm
              have hS := hid (hps.out j (by have := HM.out; have := hmj.out; omega))
              rw [hX.out, hX'.out] at hS
              obtain ⟨x1, x2⟩ := x
              obtain ⟨y1, y2⟩ := x'
              generalize (prP a).take j = out at *
              have hmi : (m : Int) < (k : Int) := by omega
              have hm1i : (m : Int) + 1 < (k : Int) := by omega
              have hw : IntKind.i64.wrap ((m : Int) + 1) = (m : Int) + 1 := IntWalk.i64_in _ (by omega)
              have ht : ((m : Int) + 1).toNat = m + 1 := by omega
              have hp0 : (0 : Int) ≤ (m : Int) + 1 := by omega
              have hbW : b < wr.heap.size := hb
              have hbi : b < wi.heap.size := by have := hWT.out b (by simp [Value.ownBlock]); omega
              have hne := World.new_ne _ _ hc0
              clear hx hx' hX hX' hlt hm1
              go_wp2
              go_region_held3 (fun w' => w'.cell? ⟨b, off + m * 2, none⟩ = some (.int .i64 x1) ∧ w'.cell? ⟨b, off + m * 2 + 1, none⟩ = some (.bool x2) ∧ w'.cell? ⟨b, off + (m + 1) * 2, none⟩ = some (.int .i64 y1) ∧ w'.cell? ⟨b, off + (m + 1) * 2 + 1, none⟩ = some (.bool y2)) (first | go_keep | exact ⟨(hb2.cell (p := ⟨b, off + m * 2, none⟩) hbi).trans hc0, (hb2.cell (p := ⟨b, off + m * 2 + 1, none⟩) hbi).trans hc1, (hb2.cell (p := ⟨b, off + (m + 1) * 2, none⟩) hbi).trans hd0, (hb2.cell (p := ⟨b, off + (m + 1) * 2 + 1, none⟩) hbi).trans hd1⟩) ((refine step_push_bt ho2 x1 x2 y1 y2 _ (by rfl) _ _ (by rfl) (by rfl) (by rfl) (by omega) hzz ?_; intro v2 w2 ho2' hb2))
              clear hw ht
              go_wp2
              have hoT2 := own_low hoT hb2 (fun g h => by have h : b = g := (by simpa [Value.ownBlock] using h); omega)
              go_roundw
              case rel => exact hid ⟨m + 2, j + 1, by omega, by go_num, by show _ = _; rw [hmj.out]; omega, by rw [hS.out]; exact ho2', hoT2, hbr.trans (hb2.mono (by omega)), Nat.le_trans hzz hb2.size⟩
              case measure => simp [intOf]; omega
            · have hjM : j = M := by have := HM.out; have := hmj.out; omega
              rw [List.take_of_length_le (by rw [hpl.out]; omega)] at ho2
              go_wp2
              go_ret2
              exact ⟨by rw [HZ.out]; exact SyRes.mk rfl (own_more ho2 (by omega)), bchain hbc hbr⟩
  | false =>
    rw [hp] at hV
    have hV := hid hV
    have HO : Hid (rPair q = ([], 1)) := by show _ = _; rw [rPair, if_neg (by rw [hp]; decide)]
    clear hr hp hlen
    go_enter Try.func30, Try.ntmps30
    go_wp2_with fail
    refine hV.out.mono ?_
    rintro e w1 ⟨rfl, hb1⟩
    go_wp2
    go_ret2
    exact ⟨by rw [HO.out]; exact SyRes.none_ _ _ _, (by repeat' (first | exact Below.refl _ _ | (with_reducible assumption) | (with_reducible refine Below.alloc ?_ ?_ _) | (with_reducible refine Below.setCell ?_ ?_ _) | (with_reducible refine Below.drew ?_) | (with_reducible refine below_drewN ?_ _) | (refine Below.trans ?_ (Below.mono (by assumption) ?_)) | (with_reducible exact Nat.le_refl _) | (with_reducible assumption) | (exact Below.size (by assumption)) | omega | go_size | (simp at *; omega)))⟩
end Go.Proofs.Ytjagejalchfhlaa
