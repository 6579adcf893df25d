/- Several texts in one: Fg, Fh, Fm. -/
import Derived.Test.YtlbhfjbbkkkldaaK2
import Derived.Test.YtlbhfjbbkkkldaaK3
import Derived.Test.YtlbhfjbbkkkldaaK4
import Derived.Test.YtlbhfjbbkkkldaaSo
import Derived.Test.YtlbhfjbbkkkldaaCo
/- Contract of l10Short: the shortest throws between two states. -/
namespace Go.Proofs.Ytlbhfjbbkkkldaa
open Go.RowKit
set_option linter.unusedVariables false

/-- An owned row under a store into a block below its own. -/
theorem own_putS {w : World} {base e sz n : Nat} {v : Value} {xs : List Value} (h : w.ownsRow base e sz v n xs) {p : Addr} (hp : p.block < base) (u : Value) : (w.setCell p u).ownsRow base e sz v n xs := by
  refine ⟨h.1, ?_⟩
  rcases h.2 with hn | ⟨g, cap, cur, rfl, hg, hh, r⟩
  · exact .inl hn
  · exact .inr ⟨g, cap, cur, rfl, hg, by rw [Below.heap_setCell w p u g (by omega)]; exact hh, r⟩
set_option maxRecDepth 100000 in
set_option maxHeartbeats 4000000 in
theorem l10Short_any (h : Nat) (a b : Int) (w : World) (h1 : 1 ≤ h) (hh : h ≤ 10) (a0 : 0 ≤ a) (a1 : a < 2 ^ h) (b0 : 0 ≤ b) (b1 : b < 2 ^ h) (hab : popc h a = popc h b) :
    Calls Try.prog 176 #[.agg #[.int .i64 (h : Int), .int .i64 a], .agg #[.int .i64 (h : Int), .int .i64 b]] w fun e w' => ∃ v out, e = .returned v ∧ out.length ≤ 1024 ∧ w'.ownsRow w.heap.size 2 1 v out.length (ints out) ∧ Below w.heap.size w w' := by
  have ea : ((2 ^ h : Nat) : Int) = 2 ^ h := by simp
  have hp10 := pow10 hh
  have hX0 : Hid (Bx ((w.alloc (Obj.cells #[.int .i64 (h : Int), .int .i64 a] 119)).alloc (Obj.cells #[.int .i64 (h : Int), .int .i64 b] 119)) w.heap.size 119 #[.int .i64 (h : Int), .int .i64 a]) := (Bx.new _ _ _).alloc _
  have hY0 : Hid (Bx ((w.alloc (Obj.cells #[.int .i64 (h : Int), .int .i64 a] 119)).alloc (Obj.cells #[.int .i64 (h : Int), .int .i64 b] 119)) (w.heap.size + 1) 119 #[.int .i64 (h : Int), .int .i64 b]) := by
    have := Bx.new (w.alloc (Obj.cells #[.int .i64 (h : Int), .int .i64 a] 119)) 119 #[.int .i64 (h : Int), .int .i64 b]
    show Bx _ _ _ _
    simpa using this
  obtain ⟨w0, hw0⟩ : ∃ w0, (w.alloc (Obj.cells #[.int .i64 (h : Int), .int .i64 a] 119)).alloc (Obj.cells #[.int .i64 (h : Int), .int .i64 b] 119) = w0 := ⟨_, rfl⟩
  have hz0 : w0.heap.size = w.heap.size + 2 := by rw [← hw0]; simp
  have hb0 : Hid (Below w.heap.size w w0) := by
    show Below _ _ _
    rw [← hw0]; exact (by repeat' (first | exact Below.refl _ _ | (with_reducible assumption) | (with_reducible refine Below.alloc ?_ ?_ _) | (with_reducible refine Below.setCell ?_ ?_ _) | (with_reducible refine Below.drew ?_) | (with_reducible refine below_drewN ?_ _) | (refine Below.trans ?_ (Below.mono (by assumption) ?_)) | (with_reducible exact Nat.le_refl _) | (with_reducible assumption) | (exact Below.size (by assumption)) | omega | go_size | (simp at *; omega)))
  have hma : a ∈ msks (popc h a) (h : Int) := (msks_mem (p := popc h a) (h := h) (x := a)).2 ⟨a0, a1, rfl⟩
  have hmb : b ∈ msks (popc h a) (h : Int) := (msks_mem (p := popc h a) (h := h) (x := b)).2 ⟨b0, b1, hab.symm⟩
  have hcount := hid (fun (w' : World) => l08Count_any a h w' a0 (by omega) a1)
  have hmasks := hid (fun (w' : World) => l09Masks_any (popc h a) (h : Int) w' (by omega) (by omega))
  have harcs := hid (fun (A : Option Addr) (n c : Nat) (w' : World) (hr : Rd w' w'.heap.size 1 A n (ints (msks (popc h a) (h : Int)))) => l09Arcs_any A n c (popc h a) h w' h1 hh hr)
  have hlen : (msks (popc h a) (h : Int)).length ≤ 1024 := msks_len (by omega) (by omega)
  have hpw : Hid ((msks (popc h a) (h : Int)).Pairwise (· < ·)) := mskL_rises _ _ _ _
  have hmem := hid (fun (x : Int) (hx : x ∈ msks (popc h a) (h : Int)) => msks_mem.1 hx)
  have HNX := hid (fun (m t : Int) (hm : m ∈ msks (popc h a) (h : Int)) (k : canB (h : Int) m t = true) => show nextM m t ∈ msks (popc h a) (h : Int) from by
    obtain ⟨m0, m1, mp⟩ := msks_mem.1 hm
    obtain ⟨n0, n1, np⟩ := next_facts hh m0 m1 k
    exact (msks_mem (p := popc h a) (h := h) (x := nextM m t)).2 ⟨n0, n1, by rw [np]; exact mp⟩)
  have HRA := hid (fun (s n : Nat) (bk : List (Nat × Nat)) (out : List Int) (hB : BackOk (msks (popc h a) (h : Int)) h bk) (hF : FarOk n s bk out) (hs : s < (msks (popc h a) (h : Int)).length) (x : Nat) (hx : x < (msks (popc h a) (h : Int)).length) => reach_all hh hB hF hs hx)
  have HNE := hid (fun (s n x : Nat) (bk : List (Nat × Nat)) (out : List Int) (d m : Int) (hB : BackOk (msks (popc h a) (h : Int)) h bk) (hF : FarOk n s bk out) (hx : out[x]? = some d) (d0 : 0 ≤ d) (hxs : x ≠ s) (hm : (msks (popc h a) (h : Int))[x]? = some m) => nearer hB hF hx d0 hxs hm)
  generalize msks (popc h a) (h : Int) = ms at *
  generalize popc h a = P at *
  have HMA := hid hma
  have HMB := hid hmb
  have q0 : w0.cell? ⟨w.heap.size, 0, none⟩ = some (.int .i64 (h : Int)) := by rw [← hw0]; exact hX0.out.cell 0
  have q1 : w0.cell? ⟨w.heap.size, 1, none⟩ = some (.int .i64 a) := by rw [← hw0]; exact hX0.out.cell 1
  have X0 : Hid (Bx w0 w.heap.size 119 #[.int .i64 (h : Int), .int .i64 a]) := by rw [← hw0]; exact hX0
  have Y0 : Hid (Bx w0 (w.heap.size + 1) 119 #[.int .i64 (h : Int), .int .i64 b]) := by rw [← hw0]; exact hY0
  have hz01 : w.heap.size + 2 ≤ w0.heap.size := by omega
  have HZ := hid hz0
  have hh2 : (h : Int) ≤ 10 := by omega
  have hp1024 : 2 ^ h ≤ 1024 := hp10
  clear hX0 hY0 hma hmb hz0 ea hp10 hab a0 a1 b0 b1
  have HW0 := hid hw0
  clear hw0
  go_enter Try.func176, Try.ntmps176
  go_upto_region 1 with fail
  rw [HW0.out]
  clear HW0
  go_cut [5] (fun v wx => Hid (∃ A1 c1, v = .slice A1 ms.length c1 ∧ wx.ownsRow (w.heap.size + 2) 2 1 (.slice A1 ms.length c1) ms.length (ints ms) ∧ Below w0.heap.size w0 wx))
  case first =>
    go_wp2
    go_region_law (go_simp; go_wp2_with (first
      | (go_at_call 202; with_reducible refine (hcount.out _).mono ?_; rintro e w' ⟨rfl, rfl⟩)
      | (go_at_call 201; with_reducible refine (hmasks.out _).mono ?_; rintro e w5 ⟨v5, rfl, ho5, hb5⟩; obtain ⟨A5, c5, rfl⟩ := own_form ho5; have HO5 := hid ho5; have HB5 := hid (show Below w0.heap.size w0 w5 from (by repeat' (first | exact Below.refl _ _ | (with_reducible assumption) | (with_reducible refine Below.alloc ?_ ?_ _) | (with_reducible refine Below.setCell ?_ ?_ _) | (with_reducible refine Below.drew ?_) | (with_reducible refine below_drewN ?_ _) | (refine Below.trans ?_ (Below.mono (by assumption) ?_)) | (with_reducible exact Nat.le_refl _) | (with_reducible assumption) | (exact Below.size (by assumption)) | omega | go_size | (simp at *; omega)))); clear ho5 hb5)))
    all_goals
      go_wp2_with fail
      go_meet
      exact hid ⟨A5, c5, rfl, own_more HO5.out hz01, HB5.out⟩
  case rest =>
    obtain ⟨A1, c1, rfl, ho1, hb1⟩ := hcut.out
    clear hcut q0 q1 hcount hmasks
    obtain ⟨w1, hw1⟩ : ∃ w1, w1 = wc := ⟨_, rfl⟩
    subst hw1
    have hz1 := hb1.size
    have X1 := hid (X0.out.below hb1 X0.out.lt)
    have Y1 := hid (Y0.out.below hb1 Y0.out.lt)
    have HB1 : Hid (Below w.heap.size w w1) := hb0.out.trans (hb1.mono (by omega))
    have HC := hid (harcs.out A1 ms.length c1 w1 (Rd.of_own ho1))
    have HO1 := hid ho1
    have q0 : w1.cell? ⟨w.heap.size, 0, none⟩ = some (.int .i64 (h : Int)) := X1.out.cell 0
    clear X0 Y0 hb0 hb1 harcs ho1
    go_wp2_with fail
    refine HC.out.mono ?_
    rintro e w2 ⟨v2, ar, rfl, har, ho2, hAll, hb2⟩
    have hz2 := hb2.size
    obtain ⟨A2, c2, rfl⟩ := own_form ho2
    have X2 := hid (X1.out.below hb2 X1.out.lt)
    have Y2 := hid (Y1.out.below hb2 Y1.out.lt)
    have HB2 := hid (bchain HB1.out hb2)
    have HO2 := hid (own_below HO1.out hb2)
    have HA2 := hid (Rd.of_own ho2)
    have HAL := hid hAll
    have HTL := hid (turned_len ar)
    clear HC HB1 HO1 X1 Y1 q0 ho2 hAll hb2
    go_wp2
    go_loopw [7, 8] (fun v i wr => Hid (∃ k : Nat, k ≤ ar.length ∧ i = .int .i64 k ∧ wr.ownsRow w2.heap.size 179 3 v ((turned ar).take k).length (arcs ((turned ar).take k)) ∧ Below w2.heap.size w2 wr)) (fun _ i _ => ar.length - (intOf i).toNat)
    case atStart => exact hid ⟨0, Nat.zero_le _, rfl, World.ownsRow_lit w2 #[] 0 (Nat.le_refl _) (by simp [maxLen]) rfl, (by repeat' (first | exact Below.refl _ _ | (with_reducible assumption) | (with_reducible refine Below.alloc ?_ ?_ _) | (with_reducible refine Below.setCell ?_ ?_ _) | (with_reducible refine Below.drew ?_) | (with_reducible refine below_drewN ?_ _) | (refine Below.trans ?_ (Below.mono (by assumption) ?_)) | (with_reducible exact Nat.le_refl _) | (with_reducible assumption) | (exact Below.size (by assumption)) | omega | go_size | (simp at *; omega)))⟩
    case round =>
      obtain ⟨k, hk, rfl, hok, hbk⟩ := hrel.out
      clear hrel
      obtain ⟨wk, hwk⟩ : ∃ wk, wk = wr := ⟨_, rfl⟩
      subst hwk
      have hzk := hbk.size
      have htl : ((turned ar).take k).length = k := by rw [List.length_take, HTL.out]; omega
      rw [htl] at hok
      by_cases hka : k < ar.length
      · have hka2 : (k : Int) < (ar.length : Int) := by omega
        obtain ⟨bA, oA, ⟨x1, x2, x3⟩, rfl, hbA, hx, d0, d1, d2⟩ := (HA2.out.below hbk (Nat.le_refl _)).arc_at hka
        simp only at d0 d1 d2
        have HST := hid (turned_step hx)
        have hbA2 : bA < wk.heap.size := by omega
        have HOK := hid hok
        have HBK := hid hbk
        obtain ⟨Ak, ck, rfl⟩ := own_form hok
        have HTK := hid htl
        clear hx d1 hok hbk htl
        go_wp2
        go_region_law (refine step_push_own (base := w2.heap.size) (sz := 3) (e := 179) (n := k) (xs := arcs ((turned ar).take k)) (by first | exact HOK.out.alloc _ | exact own_drewA (HOK.out.alloc _) | exact (own_drewA HOK.out).alloc _ | exact own_drewA ((own_drewA HOK.out).alloc _)) wk.heap.size #[.int .i64 x3, .int .i64 0, .int .i64 x1] (cells3 (by first | (simp; done) | (show (World.alloc _ _).cell? _ = _; rw [World.cell?_alloc_at _ _ _ _ (by first | rfl | simp)]; first | done | rfl)) (by first | (simp; done) | (show (World.alloc _ _).cell? _ = _; rw [World.cell?_alloc_at _ _ _ _ (by first | rfl | simp)]; first | done | rfl)) (by first | (simp; done) | (show (World.alloc _ _).cell? _ = _; rw [World.cell?_alloc_at _ _ _ _ (by first | rfl | simp)]; first | done | rfl))) rfl (arc_one _ _ _) Try.underlying176 inf_arc rfl (by omega) rfl _ _ rfl rfl rfl (by omega) (by omega) (by first | (simp; omega) | (simp [World.drewN]; omega)) (by first | (simp; done) | (simp [World.drewN]; done)) ?_; intro v9 w9 ho9 hb9 hg9; have B9 : Below w2.heap.size w2 w9 := HBK.out.trans (Below.trans (show Below w2.heap.size wk _ from (by first | exact ((Below.refl _ _).alloc hzk _) | exact (by repeat' (first | exact Below.refl _ _ | (with_reducible assumption) | (with_reducible refine Below.alloc ?_ ?_ _) | (with_reducible refine Below.setCell ?_ ?_ _) | (with_reducible refine Below.drew ?_) | (with_reducible refine below_drewN ?_ _) | (refine Below.trans ?_ (Below.mono (by assumption) ?_)) | (with_reducible exact Nat.le_refl _) | (with_reducible assumption) | (exact Below.size (by assumption)) | omega | go_size | (simp at *; omega))))) hb9); obtain ⟨A9, c9, rfl⟩ := own_form ho9; have HO9 := hid ho9; clear ho9 hb9 hg9)
        all_goals
          clear HOK HBK d0 d2
          go_simp
          go_wp2
          go_roundw
          case rel =>
            refine hid ⟨k + 1, by omega, by go_num, ?_, B9⟩
            have hl9 : ((turned ar).take (k + 1)).length = k + 1 := by rw [List.length_take, HTL.out]; omega
            rw [hl9, HST.out, ← arcs_snoc]
            exact HO9.out
          case measure => simp [intOf]; omega
      · obtain rfl : k = ar.length := by omega
        have hka2 : ¬ (ar.length : Int) < (ar.length : Int) := by omega
        rw [List.take_of_length_le (by rw [HTL.out]; omega)] at hok
        obtain ⟨Ak, ck, rfl⟩ := own_form hok
        have X3 := hid (X2.out.below hbk X2.out.lt)
        have Y3 := hid (Y2.out.below hbk Y2.out.lt)
        have HB3 := hid (bchain HB2.out hbk)
        have HO3 := hid (own_below HO2.out hbk)
        have HT3 : Hid (Rd wk wk.heap.size 3 Ak ar.length (arcs (turned ar))) := Rd.of_own hok
        obtain ⟨sb, hsb, esb⟩ := List.getElem_of_mem HMB.out
        have hsb2 : ms[sb]? = some b := by rw [List.getElem?_eq_getElem hsb, esb]
        obtain ⟨sa, hsa, esa⟩ := List.getElem_of_mem HMA.out
        have hsa2 : ms[sa]? = some a := by rw [List.getElem?_eq_getElem hsa, esa]
        have HSA := hid hsa2
        have HSB := hid hsb2
        have HFind := hid (fun (w' : World) (m : Int) (j : Nat) (hj : ms[j]? = some m) (ho : w'.ownsRow (w.heap.size + 2) 2 1 (.slice A1 ms.length c1) ms.length (ints ms)) => l09Find_any A1 ms.length c1 ms m j w' (by omega) hpw.out hj (Rd.of_own ho))
        have HFar := hid (l09Far_any A1 Ak ms.length c1 ar.length ck sb ms (turned ar) wk hlen (by omega) hsb HAL.out.turned_in (Rd.of_own HO3.out) HT3.out)
        have HBack := hid HAL.out.back
        have HReach := hid (fun (n : Nat) (out : List Int) (hF : FarOk n sb (pairs (turned ar)) out) (x : Nat) (hx : x < ms.length) => HRA.out sb n (pairs (turned ar)) out HBack.out hF hsb x hx)
        have HNear := hid (fun (n x : Nat) (out : List Int) (d m : Int) (hF : FarOk n sb (pairs (turned ar)) out) (hx : out[x]? = some d) (d0 : 0 ≤ d) (hxs : x ≠ sb) (hm : ms[x]? = some m) => HNE.out sb n x (pairs (turned ar)) out d m HBack.out hF hx d0 hxs hm)
        have y1 : wk.cell? ⟨w.heap.size + 1, 1, none⟩ = some (.int .i64 b) := Y3.out.cell 1
        clear HTL HAL HA2 X2 Y2 HB2 HO2 hok hbk HT3 HRA HNE esb esa hsb2 hsa2
        go_wp2_with fail
        refine (HFind.out wk b sb HSB.out HO3.out).mono ?_
        rintro e wx ⟨rfl, rfl⟩
        go_wp2_with fail
        refine HFar.out.mono ?_
        rintro e w4 ⟨v4, far, rfl, ho4, hF, hb4⟩
        have hz4 := hb4.size
        have hfl := hF.len
        have hfb := hid (fun (x : Nat) (d : Int) (h : far[x]? = some d) => hF.bd x d h)
        obtain ⟨d1, hd1, hd0⟩ := HReach.out ms.length far hF sa hsa
        have hd2 := hfb.out sa d1 hd1
        rw [hfl] at ho4
        obtain ⟨A4, c4, rfl⟩ := own_form ho4
        have X4 := hid (X3.out.below hb4 X3.out.lt)
        have Y4 := hid (Y3.out.below hb4 Y3.out.lt)
        have HB4 := hid (bchain HB3.out hb4)
        have HO4 := hid (own_below HO3.out hb4)
        have hzk2 : w.heap.size + 2 ≤ wk.heap.size := by omega
        have HF4 := hid (own_more ho4 hzk2)
        have HFO := hid hF
        have HD1 := hid hd1
        have HFL := hid hfl
        have hlm : ms.length ≤ 1024 := hlen
        have L1 := hid (fun g hg => (HO4.out.lt g hg).2)
        have L4 := hid (fun g hg => (HF4.out.lt g hg).2)
        clear HFar X3 Y3 HB3 HO3 ho4 hF hb4 hd1 hfl y1
        go_wp2
        go_loopw [10] (fun v wr => Hid (∃ (out : List Int) (y d : Int) (j : Nat), Bx wr w.heap.size 119 #[.int .i64 (h : Int), .int .i64 y] ∧ Bx wr (w.heap.size + 1) 119 #[.int .i64 (h : Int), .int .i64 b] ∧ ms[j]? = some y ∧ far[j]? = some d ∧ 0 ≤ d ∧ (out.length : Int) + d ≤ 1024 ∧
          wr.ownsRow w4.heap.size 2 1 v out.length (ints out) ∧ wr.ownsRow (w.heap.size + 2) 2 1 (.slice A1 ms.length c1) ms.length (ints ms) ∧ wr.ownsRow (w.heap.size + 2) 2 1 (.slice A4 ms.length c4) ms.length (ints far) ∧ Below w.heap.size w wr ∧ w4.heap.size ≤ wr.heap.size)) (fun v _ => match v with | .slice _ m _ => 1025 - m | _ => 0)
        case atStart =>
          have hal : Below w4.heap.size w4 (w4.alloc (Obj.cells #[] 2)) := (Below.refl _ _).alloc (Nat.le_refl _) _
          exact hid ⟨[], a, d1, sa, X4.out.below hal X4.out.lt, Y4.out.below hal Y4.out.lt, HSA.out, HD1.out, hd0, by simp; omega, World.ownsRow_lit w4 #[] 0 (Nat.le_refl _) (by simp [maxLen]) rfl, own_below HO4.out hal, own_below HF4.out hal, bchain HB4.out hal, hal.size⟩
        case round =>
          obtain ⟨out, y, d, j, hX, hY, hj, hd, d0, hod, ho, hms, hfar, hb, hzr⟩ := hrel.out
          clear hrel X4 Y4 HB4 HO4 HF4 HD1 hd0 hd2
          obtain ⟨wo, hwo⟩ : ∃ wo, wo = wr := ⟨_, rfl⟩
          subst hwo
          obtain ⟨Ao, co, rfl⟩ := own_form ho
          have q0 : wo.cell? ⟨w.heap.size, 0, none⟩ = some (.int .i64 (h : Int)) := hX.cell 0
          have q1 : wo.cell? ⟨w.heap.size, 1, none⟩ = some (.int .i64 y) := hX.cell 1
          have p1 : wo.cell? ⟨w.heap.size + 1, 1, none⟩ = some (.int .i64 b) := hY.cell 1
          have f0 := hX.frozen 0
          have f1 := hX.frozen 1
          have hlx := hX.lt
          have hly := hY.lt
          have hol : out.length ≤ 1024 := by omega
          by_cases hyb : y = b
          · subst hyb
            have HO := hid ho
            clear hX hY hj hd ho hms hfar
            go_wp2
            go_ret
            first
              | exact ⟨_, rfl, out, hol, own_more HO.out (by omega), hb⟩
              | exact ⟨_, out, rfl, hol, own_more HO.out (by omega), hb⟩
          · have hyb2 : (y == b) = false := by simpa using hyb
            obtain ⟨my0, my1, myp⟩ := hmem.out y (List.mem_of_getElem? hj)
            have hjs : j ≠ sb := fun e => by
              subst e
              rw [HSB.out] at hj
              exact hyb (Option.some.inj hj).symm
            obtain ⟨dn, ts, us, ts0, ts1, tsc, hus, hfu⟩ := HNear.out ms.length j far d y HFO.out hd d0 hjs hj
            have htL : ts ∈ thF (h : Int) y (h + 1) 0 := thF_mem.2 ⟨ts0, by omega, tsc⟩
            obtain ⟨kk, hkk, ekk⟩ := List.getElem_of_mem htL
            have hkk2 : (thF (h : Int) y (h + 1) 0)[kk]? = some ts := by rw [List.getElem?_eq_getElem hkk, ekk]
            have hTM := hid (fun (t : Int) (ht : t ∈ thF (h : Int) y (h + 1) 0) => thF_mem.1 ht)
            have hlL := thF_len (h : Int) y (h + 1) 0
            have hT := hid (l08Throws_any h y wo hh)
            have HNY := hid (fun (t : Int) (k : canB (h : Int) y t = true) => HNX.out y t (List.mem_of_getElem? hj) k)
            have HX := hid hX
            have HY := hid hY
            have HJ := hid hj
            have HD := hid hd
            have HO := hid ho
            have HMS := hid hms
            have HFR := hid hfar
            have HUS := hid hus
            have HFU := hid hfu
            have HBO := hid hb
            generalize thF (h : Int) y (h + 1) 0 = L at *
            have HKK := hid hkk2
            clear hX hY hj hd ho hms hfar htL ekk hkk2 hyb tsc hjs hus hfu hb myp
            go_wp2_with fail
            refine hT.out.mono ?_
            rintro e wL ⟨vL, rfl, hoL, hbL⟩
            have hzL := hbL.size
            obtain ⟨AL, cL, rfl⟩ := own_form hoL
            have HXL := hid (HX.out.below hbL HX.out.lt)
            have HYL := hid (HY.out.below hbL HY.out.lt)
            have HOL := hid (own_below HO.out hbL)
            have HMSL := hid (own_below HMS.out hbL)
            have HFRL := hid (own_below HFR.out hbL)
            have HBL := hid (bchain HBO.out hbL)
            have HLL := hid hoL
            have q1 : wL.cell? ⟨w.heap.size, 1, none⟩ = some (.int .i64 y) := HXL.out.cell 1
            have hfc : far[j]? = some d := HD.out
            have hjm : j < ms.length := (List.getElem?_eq_some_iff.1 HJ.out).1
            obtain ⟨gf, cf, ef, hgf1, hgf2⟩ := own_block HFRL.out (by omega)
            obtain ⟨rfl, -, rfl⟩ := Value.slice.inj ef
            have hcf := HFRL.out.cellAt j (by omega)
            rw [ints, List.getElem?_map, hfc] at hcf
            replace hcf : wL.cell? ⟨gf, j, none⟩ = some (.int .i64 d) := hcf
            have hjm2 : (j : Int) < (ms.length : Int) := by omega
            clear hT HX HY HO HMS HFR HBO hbL hoL hfc ef q0 f0 f1 p1
            go_wp2_with fail
            refine (HFind.out wL y j HJ.out HMSL.out).mono ?_
            rintro e wx ⟨rfl, rfl⟩
            have hde : d ≤ 1024 := by omega
            go_wp2
            clear hcf q1
            go_loopw [10, 13] (fun v i w2 => Hid (∃ k : Nat, i = .int .i64 k ∧ k ≤ kk ∧ v = .slice Ao out.length co ∧ Below wL.heap.size wL w2)) (fun _ i _ => L.length - (intOf i).toNat)
            case atStart => exact hid ⟨0, rfl, Nat.zero_le _, rfl, Below.refl _ _⟩
            case round =>
              obtain ⟨k, rfl, hk, rfl, hbi⟩ := hrel.out
              clear hrel
              obtain ⟨wi, hwi⟩ : ∃ wi, wi = wr := ⟨_, rfl⟩
              subst hwi
              have hzi := hbi.size
              have hkl : (k : Int) < (L.length : Int) := by omega
              have hkl1 : k < L.length := by omega
              obtain ⟨t, ht⟩ : ∃ t, L[k]? = some t := ⟨_, List.getElem?_eq_getElem hkl1⟩
              obtain ⟨t0, t1, tc⟩ := hTM.out t (List.mem_of_getElem? ht)
              obtain ⟨u, hu1, eu⟩ := List.getElem_of_mem (HNY.out t tc)
              have hu : ms[u]? = some (nextM y t) := by rw [List.getElem?_eq_getElem hu1, eu]
              obtain ⟨e1, he1⟩ : ∃ e1, far[u]? = some e1 := ⟨_, List.getElem?_eq_getElem (by have := HFL.out; omega)⟩
              have hkey : k = kk → e1 = d - 1 := by
                intro ek
                have h1 := HKK.out
                rw [← ek, ht] at h1
                have e3 : t = ts := Option.some.inj h1
                rw [e3] at hu
                have e4 := ms_inj hpw.out hu HUS.out
                have h2 := HFU.out
                rw [← e4, he1] at h2
                exact Option.some.inj h2
              have XI := hid (HXL.out.below hbi HXL.out.lt)
              have YI := hid (HYL.out.below hbi HYL.out.lt)
              have OI := hid (own_below HOL.out hbi)
              have MI := hid (own_below HMSL.out hbi)
              have FI := hid (own_below HFRL.out hbi)
              have LI := hid (own_below HLL.out hbi)
              have BI := hid (bchain HBL.out hbi)
              obtain ⟨gl, cl, el, hgl1, hgl2⟩ := own_block LI.out (by omega)
              obtain ⟨rfl, -, rfl⟩ := Value.slice.inj el
              have hcl := LI.out.cellAt k (by omega)
              rw [ints, List.getElem?_map, ht] at hcl
              replace hcl : wi.cell? ⟨gl, k, none⟩ = some (.int .i64 t) := hcl
              have hcf := FI.out.cellAt u (by omega)
              rw [ints, List.getElem?_map, he1] at hcf
              replace hcf : wi.cell? ⟨gf, u, none⟩ = some (.int .i64 e1) := hcf
              have q0 : wi.cell? ⟨w.heap.size, 0, none⟩ = some (.int .i64 (h : Int)) := XI.out.cell 0
              have q1 : wi.cell? ⟨w.heap.size, 1, none⟩ = some (.int .i64 y) := XI.out.cell 1
              have hu2 : (u : Int) < (ms.length : Int) := by omega
              have hxi := XI.out.lt
              have HU := hid hu
              have HE1 := hid he1
              have HNxt := hid (fun (w' : World) => l08Next_any (h : Int) y t w' (by omega) my0)
              clear ht hu he1 eu el tc
              go_upto_region 16 with fail
              go_cut [14] (fun v wx => Hid (∃ gN : Nat, v = .pointer (some ⟨gN, 0, none⟩) ∧ Bx wx gN 119 #[.int .i64 (h : Int), .int .i64 (nextM y t)] ∧ Below wi.heap.size wi wx))
              case first =>
                go_wp2
                go_region_law (go_simp; go_wp2_with (go_at_call 207; with_reducible refine (HNxt.out _).mono ?_; rintro e w5 ⟨rfl, hb5⟩; have z5 := hb5.size; have B5 : Below wi.heap.size wi w5 := (by repeat' (first | exact Below.refl _ _ | (with_reducible assumption) | (with_reducible refine Below.alloc ?_ ?_ _) | (with_reducible refine Below.setCell ?_ ?_ _) | (with_reducible refine Below.drew ?_) | (with_reducible refine below_drewN ?_ _) | (refine Below.trans ?_ (Below.mono (by assumption) ?_)) | (with_reducible exact Nat.le_refl _) | (with_reducible assumption) | (exact Below.size (by assumption)) | omega | go_size | (simp at *; omega))); try (have X5 := hid (Bx.below (show Bx _ wi.heap.size 119 #[.int .i64 0, .int .i64 0] by first | exact Bx.new _ _ _ | exact Bx.drew (Bx.new _ _ _)) hb5 (by simp)); have x50 := X5.out.cell 0; have x51 := X5.out.cell 1; have f50 := X5.out.frozen 0; have f51 := X5.out.frozen 1)))
                all_goals
                  go_wp2_with fail
                  go_meet
                  first
                    | exact hid ⟨wi.heap.size, rfl, (X5.out.set_ 0 _).set_ 1 _, Below.setCell (Below.setCell B5 (Nat.le_refl _) _) (Nat.le_refl _) _⟩
                    | exact hid ⟨w5.heap.size, rfl, Bx.new _ _ _, Below.alloc B5 B5.size _⟩
              case rest =>
                obtain ⟨gN, rfl, hN, bW⟩ := hcut.out
                clear hcut q0 q1 HNxt
                obtain ⟨wn, hwn⟩ : ∃ wn, wn = wc := ⟨_, rfl⟩
                subst hwn
                have hzn := bW.size
                have n0 : wn.cell? ⟨gN, 0, none⟩ = some (.int .i64 (h : Int)) := hN.cell 0
                have n1 : wn.cell? ⟨gN, 1, none⟩ = some (.int .i64 (nextM y t)) := hN.cell 1
                have hgN := hN.lt
                have XN := hid (XI.out.below bW XI.out.lt)
                have YN := hid (YI.out.below bW YI.out.lt)
                have ON := hid (own_below OI.out bW)
                have MN := hid (own_below MI.out bW)
                have FN := hid (own_below FI.out bW)
                have BN := hid (bchain BI.out bW)
                have BLN := hid (hbi.trans (bW.mono hzi))
                have hcl' : wn.cell? ⟨gl, k, none⟩ = some (.int .i64 t) := (bW.cell (p := ⟨gl, k, none⟩) hgl2).trans hcl
                have hgfi : gf < wi.heap.size := by omega
                have hcf' : wn.cell? ⟨gf, u, none⟩ = some (.int .i64 e1) := (bW.cell (p := ⟨gf, u, none⟩) hgfi).trans hcf
                have f0 := XN.out.frozen 0
                have f1 := XN.out.frozen 1
                have xx0 : wn.cell? ⟨w.heap.size, 0, none⟩ = some (.int .i64 (h : Int)) := XN.out.cell 0
                have xx1 : wn.cell? ⟨w.heap.size, 1, none⟩ = some (.int .i64 y) := XN.out.cell 1
                have HN := hid hN
                clear hcl hcf XI YI OI MI FI BI LI hN bW hbi
                go_wp2_with fail
                refine (HFind.out wn (nextM y t) u HU.out MN.out).mono ?_
                rintro e wx ⟨rfl, rfl⟩
                by_cases he : e1 = d - 1
                · have hee : (e1 == d - 1) = true := by simpa using he
                  go_wp2_with (at_builtin; refine push_int ON.out t _ Try.underlying43 inf_int rfl rfl _ _ rfl rfl rfl (by omega) (by omega) ?_; intro v5 w5 ho5 hb5 hg5; have X5 := hid (XN.out.below hb5 (by omega)); have Y5 := hid (YN.out.below hb5 (by omega)); have N5 := hid (HN.out.grown hg5 (fun e => own_bne ON.out HN.out (by decide) e.symm)); have M5 := hid (own_low MN.out hb5 L1.out); have F5 := hid (own_low FN.out hb5 L4.out); have B5 := hid (BN.out.trans (hb5.mono (by omega))); have O5 := hid ho5; have z5 := hb5.size; have n50 : w5.cell? ⟨gN, 0, none⟩ = some (.int .i64 (h : Int)) := N5.out.cell 0; have n51 : w5.cell? ⟨gN, 1, none⟩ = some (.int .i64 (nextM y t)) := N5.out.cell 1; have x50 : w5.cell? ⟨w.heap.size, 0, none⟩ = some (.int .i64 (h : Int)) := X5.out.cell 0; have x51 : w5.cell? ⟨w.heap.size, 1, none⟩ = some (.int .i64 y) := X5.out.cell 1; have f50 := X5.out.frozen 0; have f51 := X5.out.frozen 1; have hl5 := X5.out.lt; obtain ⟨A5, c5, rfl⟩ := own_form ho5; clear ho5 hb5 hg5 N5)
                  go_roundw
                  case rel =>
                    have hp1 : w.heap.size < w4.heap.size := by omega
                    have hp2 : w.heap.size < w.heap.size + 2 := by omega
                    refine hid ⟨out ++ [t], nextM y t, d - 1, u, (X5.out.set_ 0 _).set_ 1 _, (Y5.out.far (p := ⟨w.heap.size, 0, none⟩) (by show w.heap.size + 1 ≠ w.heap.size; omega) _).far (p := ⟨w.heap.size, 1, none⟩) (by show w.heap.size + 1 ≠ w.heap.size; omega) _, HU.out, by rw [← he]; exact HE1.out, dn, by rw [List.length_append, List.length_singleton]; omega, ?_, ?_, ?_, ?_, by simpa using (by omega : w4.heap.size ≤ w5.heap.size)⟩
                    · have := own_putS (own_putS O5.out (p := ⟨w.heap.size, 0, none⟩) hp1 (.int .i64 (h : Int))) (p := ⟨w.heap.size, 1, none⟩) hp1 (.int .i64 (nextM y t))
                      rw [List.length_append, List.length_singleton] at this ⊢
                      exact this
                    · exact own_putS (own_putS M5.out (p := ⟨w.heap.size, 0, none⟩) hp2 _) (p := ⟨w.heap.size, 1, none⟩) hp2 _
                    · exact own_putS (own_putS F5.out (p := ⟨w.heap.size, 0, none⟩) hp2 _) (p := ⟨w.heap.size, 1, none⟩) hp2 _
                    · exact Below.setCell (Below.setCell B5.out (Nat.le_refl _) _) (Nat.le_refl _) _
                  case measure => simp; omega
                · have hee : (e1 == d - 1) = false := by simpa using he
                  have hkne : k ≠ kk := fun e => he (hkey e)
                  clear hkey
                  go_wp2
                  go_roundw
                  case rel => exact hid ⟨k + 1, by go_num, by omega, rfl, BLN.out⟩
                  case measure => simp [intOf]; omega
end Go.Proofs.Ytlbhfjbbkkkldaa

/- Contracts of l10Bridge, l11Long, A2Long. -/
namespace Go.Proofs.Ytlbhfjbbkkkldaa
open Go.RowKit
set_option linter.unusedVariables false

theorem stM_facts (p : List Int) (N : Nat) : 0 ≤ ((stM p 0 N : Nat) : Int) ∧ ((stM p 0 N : Nat) : Int) < 2 ^ N := by
  have h := stM_lt p 0 N
  have e : ((2 ^ N : Nat) : Int) = 2 ^ N := by simp
  omega
/-- The call's own list, whatever its length up to k. -/
def ListRow (k B : Nat) (w : World) (v : Value) : Prop := ∃ p : List Int, p.length ≤ k ∧ w.ownsRow B 2 1 v p.length (ints p)
set_option maxHeartbeats 1000000 in
theorem l10Bridge_any (A A2 : Option Addr) (n c m c2 : Nat) (p q : List Int) (N : Nat) (w : World) (h1 : 1 ≤ N) (h2 : N ≤ 10) (hp : okP p = true) (hq : okP q = true) (hpN : hiT p ≤ N) (hqN : hiT q ≤ N) (hpq : prN p = prN q) (hr : Rd w w.heap.size 1 A n (ints p)) (hr2 : Rd w w.heap.size 1 A2 m (ints q)) :
    Calls Try.prog 159 #[.slice A n c, .slice A2 m c2, .int .i64 (N : Int)] w fun e w' => ∃ v, e = .returned v ∧ ListRow 1024 w.heap.size w' v ∧ Below w.heap.size w w' := by
  have f1 := stM_facts p N
  have f2 := stM_facts q N
  have hpop : popc N ((stM p 0 N : Nat) : Int) = popc N ((stM q 0 N : Nat) : Int) := by
    have e1 := popc_stM p 0 N
    have e2 := popc_stM q 0 N
    have e3 := prN_cnt hp hpN
    have e4 := prN_cnt hq hqN
    rw [e1, e2, ← e3, ← e4, hpq]
  have H1 := hid (l08Of_any A n c p 0 N w (by omega) (by omega) (by omega) hp hr)
  have H2 := hid (fun (w1 : World) (b : Below w.heap.size w w1) => l08Of_any A2 m c2 q 0 N w1 (by omega) (by omega) (by omega) hq ((hr2.below b (Nat.le_refl _)).more b.size))
  have H3 := hid (fun (w1 : World) => l10Short_any N _ _ w1 h1 h2 f1.1 f1.2 f2.1 f2.2 hpop)
  generalize ((stM p 0 N : Nat) : Int) = a at *
  generalize ((stM q 0 N : Nat) : Int) = b at *
  clear hr hr2 f1 f2 hpop
  go_enter Try.func159, Try.ntmps159
  go_wp2_with fail
  refine H1.out.mono ?_
  rintro e w1 ⟨rfl, hb1⟩
  clear H1
  go_wp2_with fail
  refine (H2.out w1 hb1).mono ?_
  rintro e w2 ⟨rfl, hb2⟩
  have hB2 := bchain hb1 hb2
  clear H2
  go_wp2_with fail
  refine (H3.out w2).mono ?_
  rintro e w3 ⟨v, out, rfl, hl, ho, hb3⟩
  have HO := hid ho
  have hB3 := bchain hB2 hb3
  have hz := hB2.size
  clear H3 ho
  go_wp2
  go_ret
  exact ⟨_, rfl, ⟨out, hl, own_more HO.out hz⟩, hB3⟩
set_option maxRecDepth 100000 in
set_option maxHeartbeats 4000000 in
theorem l11Long_src (g : Nat) (A : Option Addr) (n c : Nat) (xs : List Int) (w : World) (h : Src w g A n c xs 0) :
    Calls Try.prog 125 #[.pointer (some ⟨g, 0, none⟩)] w fun e w' => (∃ v, e = .returned v ∧ AnyRow w.heap.size w' v) ∧ w.grownBy w' (some g) := by
  have hgl := h.lt
  have hP := hid (l10Two_src g A n c xs w h)
  clear h
  go_enter Try.func125, Try.ntmps125
  go_wp2_with fail
  refine hP.out.mono ?_
  rintro e w1 ⟨⟨u, v, x, rfl, ⟨p, hp, hop⟩, ⟨q, hq, hoq⟩⟩, hs1, hg1⟩
  have hz := hg1.size
  obtain ⟨Ap, cp, rfl⟩ := own_form hop
  obtain ⟨Aq, cq, rfl⟩ := own_form hoq
  have HOP := hid hop
  have HOQ := hid hoq
  have HS := hid hs1
  have HG := hid hg1
  clear hP hop hoq hs1 hg1
  go_wp2_with fail
  refine (l02Ok_any Ap p.length cp p w1 (by omega) (Rd.of_own HOP.out)).mono ?_
  rintro e w5 ⟨rfl, hb⟩
  have hzw5 := hb.size
  replace HOP := hid (own_below HOP.out hb)
  replace HOQ := hid (own_below HOQ.out hb)
  replace HS := hid (HS.out.below hb (by omega))
  replace HG := hid (grown_bl HG.out hb (by omega))
  clear hb
  cases hokp : okP p with
  | false =>
    have HF : Hid (AnyRow w.heap.size w5 (.slice Ap p.length cp)) := ⟨p, hp, HOP.out⟩
    clear HOP HOQ HS
    go_wp2
    go_ret
    exact ⟨⟨_, rfl, HF.out⟩, HG.out⟩
  | true =>
    go_wp2_with fail
    refine (l02Ok_any Aq q.length cq q w5 (by omega) (Rd.of_own HOQ.out)).mono ?_
    rintro e w6 ⟨rfl, hb⟩
    have hzw6 := hb.size
    replace HOP := hid (own_below HOP.out hb)
    replace HOQ := hid (own_below HOQ.out hb)
    replace HS := hid (HS.out.below hb (by omega))
    replace HG := hid (grown_bl HG.out hb (by omega))
    clear hb
    cases hokq : okP q with
    | false =>
      have HF : Hid (AnyRow w.heap.size w6 (.slice Ap p.length cp)) := ⟨p, hp, HOP.out⟩
      clear HOP HOQ HS
      go_wp2
      go_ret
      exact ⟨⟨_, rfl, HF.out⟩, HG.out⟩
    | true =>
      go_wp2_with fail
      refine (l02Props_any Ap p.length cp p w6 hokp (Rd.of_own HOP.out)).mono ?_
      rintro e wx ⟨rfl, rfl⟩
      go_wp2_with fail
      refine (l02Props_any Aq q.length cq q w6 hokq (Rd.of_own HOQ.out)).mono ?_
      rintro e wx ⟨rfl, rfl⟩
      by_cases hpp : prN p = prN q
      · have hpp2 : (prN p == prN q) = true := by simpa using hpp
        go_wp2_with fail
        refine (one_src g A n c 20000 xs 3 w6 (by omega) (by omega) HS.out).mono ?_
        rintro e w7 ⟨⟨b7, rfl⟩, hs7, hg7⟩
        have o1 := own_ask HOP.out HS.out hg7
        have o2 := own_ask HOQ.out HS.out hg7
        have o3 := grown_trans HG.out hg7
        replace HOP := hid o1
        replace HOQ := hid o2
        replace HG := hid o3
        replace HS := hid hs7
        have hz7 := o3.size
        clear o1 o2 o3 hg7 hs7
        cases b7 with
        | true =>
          have HF : Hid (AnyRow w.heap.size w7 (.slice Ap p.length cp)) := ⟨p, hp, HOP.out⟩
          clear HOP HOQ HS
          go_wp2
          go_ret
          exact ⟨⟨_, rfl, HF.out⟩, HG.out⟩
        | false =>
          go_wp2_with fail
          refine (l02High_all Ap p.length cp p w7 (by omega) (Rd.of_own HOP.out)).mono ?_
          rintro e wx ⟨rfl, rfl⟩
          go_wp2_with fail
          refine (l02High_all Aq q.length cq q w7 (by omega) (Rd.of_own HOQ.out)).mono ?_
          rintro e wx ⟨rfl, rfl⟩
          go_wp2_with fail
          refine (l00Max_any _ _ w7).mono ?_
          rintro e wx ⟨rfl, rfl⟩
          go_wp2_with fail
          refine (l00Max_any _ _ w7).mono ?_
          rintro e wx ⟨rfl, rfl⟩
          have hp15 := hiT_bd (okP_th hokp)
          have hq15 := hiT_bd (okP_th hokq)
          obtain ⟨N, hN⟩ : ∃ N : Nat, max 1 (max (hiT p) (hiT q)) = (N : Int) := ⟨(max 1 (max (hiT p) (hiT q))).toNat, by omega⟩
          have hN1 : 1 ≤ N := by omega
          have hpN : hiT p ≤ N := by omega
          have hqN : hiT q ≤ N := by omega
          rw [hN]
          clear hN hp15 hq15
          by_cases hN10 : 10 < N
          · have hN10' : (10 : Int) < (N : Int) := by omega
            have HF : Hid (AnyRow w.heap.size w7 (.slice Ap p.length cp)) := ⟨p, hp, HOP.out⟩
            clear HOP HOQ HS
            go_wp2
            go_ret
            exact ⟨⟨_, rfl, HF.out⟩, HG.out⟩
          · have hN10' : ¬ (10 : Int) < (N : Int) := by omega
            have HK := hid (fun (W : World) (b : Below w7.heap.size w7 W) => show W.ownsRow w.heap.size 2 1 (.slice Ap p.length cp) p.length (ints p) ∧ W.ownsRow w.heap.size 2 1 (.slice Aq q.length cq) q.length (ints q) ∧ w.grownBy W (some g) from
              ⟨own_below HOP.out b, own_below HOQ.out b, grown_bl HG.out b hz7⟩)
            have hAp : Ap = none → cp = 0 := by
              obtain ⟨_, _, e, e2, _⟩ := own_form2 HOP.out
              injection e with e3 _ e4
              rw [e3, e4]; exact e2
            have hAq : Aq = none → cq = 0 := by
              obtain ⟨_, _, e, e2, _⟩ := own_form2 HOQ.out
              injection e with e3 _ e4
              rw [e3, e4]; exact e2
            have HO8 := hid (l00Own_any Ap p.length cp p w7 (by omega) hAp (Rd.of_own HOP.out))
            have hpq := hpp
            clear hpp hpp2 HOP HOQ HS HG
            go_wp2_with fail
            refine HO8.out.mono ?_
            rintro e w8 ⟨v8, rfl, ho8, hb8⟩
            have hz8 := hb8.size
            have HB1 := hid (l10Bridge_any Ap Aq p.length cp q.length cq p q N w8 hN1 (by omega) hokp hokq hpN hqN hpq (Rd.of_own (HK.out w8 hb8).1) (Rd.of_own (HK.out w8 hb8).2.1))
            obtain ⟨A8, c8, rfl⟩ := own_form ho8
            have HO8' := hid ho8
            clear HO8 ho8
            go_wp2_with fail
            refine HB1.out.mono ?_
            rintro e w9 ⟨v9, rfl, ⟨r1, hr1, ho9⟩, hb9⟩
            have hz9 := hb9.size
            obtain ⟨A9, c9, rfl, hA9, _⟩ := own_form2 ho9
            have HO8 := hid (own_below HO8'.out hb9)
            have HO9 := hid ho9
            have B9 := bchain hb8 hb9
            clear HB1 HO8' ho9 hb8 hb9
            go_upto_region 8 with (at_builtin; refine app_ints (B := w9.heap.size) (base := w7.heap.size) (xs := p) HO8.out A9 r1.length c9 r1 (Rd.of_own HO9.out) hA9 Try.underlying43 inf_int rfl rfl _ _ rfl rfl rfl (by omega) (by omega) ?_; intro v10 w10 ho10 hb10 hg10; have hl10 : (p ++ r1).length ≤ 2000 := (by rw [List.length_append]; omega); generalize p ++ r1 = o1 at *; obtain ⟨A10, c10, rfl⟩ := own_form ho10)
            have B10 := B9.trans hb10
            have hz10 := hb10.size
            have HQ10 := hid (Rd.of_own (HK.out w10 B10).2.1)
            have HO10 := hid ho10
            clear HO8 HO9 B9 hb10 hg10 ho10
            go_upto_region 9 with (at_builtin; refine app_ints (B := w10.heap.size) (base := w7.heap.size) (xs := o1) HO10.out Aq q.length cq q HQ10.out hAq Try.underlying43 inf_int rfl rfl _ _ rfl rfl rfl (by omega) (by omega) ?_; intro v11 w11 ho11 hb11 hg11; have hl11 : (o1 ++ q).length ≤ 3000 := (by rw [List.length_append]; omega); generalize o1 ++ q = o2 at *; obtain ⟨A11, c11, rfl⟩ := own_form ho11)
            have B11 := B10.trans hb11
            have hz11 := hb11.size
            have HB2 := hid (l10Bridge_any Aq Ap q.length cq p.length cp q p N w11 hN1 (by omega) hokq hokp hqN hpN hpq.symm (Rd.of_own (HK.out w11 B11).2.1) (Rd.of_own (HK.out w11 B11).1))
            have HO11' := hid ho11
            clear HO10 HQ10 B10 hb11 hg11 ho11
            go_wp2_with fail
            refine HB2.out.mono ?_
            rintro e w12 ⟨v12, rfl, ⟨r2, hr2, ho12⟩, hb12⟩
            have hz12 := hb12.size
            obtain ⟨A12, c12, rfl, hA12, _⟩ := own_form2 ho12
            have HO11 := hid (own_below HO11'.out hb12)
            have HO12 := hid ho12
            have B12 : Below w7.heap.size w7 w12 := B11.trans (hb12.mono B11.size)
            clear HB2 HO11' ho12 hb12 B11
            go_wp2_with (at_builtin; refine app_ints (B := w12.heap.size) (base := w7.heap.size) (xs := o2) HO11.out A12 r2.length c12 r2 (Rd.of_own HO12.out) hA12 Try.underlying43 inf_int rfl rfl _ _ rfl rfl rfl (by omega) (by omega) ?_; intro v13 w13 ho13 hb13 hg13; have B13 := B12.trans hb13; obtain ⟨A13, c13, rfl⟩ := own_form ho13; have HO13 := hid ho13; generalize hout : o2 ++ r2 = out at *; by_cases h12 : 12 < out.length)
            · have h12' : (12 : Int) < (out.length : Int) := by omega
              clear HO11 HO12 B12 hb13 hg13 ho13 HO13
              obtain ⟨k1, k2, k3⟩ := HK.out w13 B13
              have HF : Hid (AnyRow w.heap.size w13 (.slice Ap p.length cp)) := ⟨p, hp, k1⟩
              have HG3 := hid k3
              clear k1 k2 k3
              go_wp2
              go_ret
              exact ⟨⟨_, rfl, HF.out⟩, HG3.out⟩
            · have h12' : ¬ (12 : Int) < (out.length : Int) := by omega
              have HF : Hid (AnyRow w.heap.size w13 (.slice A13 out.length c13)) := ⟨out, by omega, own_more HO13.out hz7⟩
              have HG3 := hid (HK.out w13 B13).2.2
              clear HO11 HO12 B12 hb13 hg13 ho13 HO13 HK
              go_wp2
              go_ret
              exact ⟨⟨_, rfl, HF.out⟩, HG3.out⟩
      · have hpp2 : (prN p == prN q) = false := by simpa using hpp
        have HF : Hid (AnyRow w.heap.size w6 (.slice Ap p.length cp)) := ⟨p, hp, HOP.out⟩
        clear HOP HOQ HS
        go_wp2
        go_ret
        exact ⟨⟨_, rfl, HF.out⟩, HG.out⟩
set_option maxRecDepth 100000 in
theorem A2Long_any (A : Option Addr) (n c : Nat) (xs : List Int) (w : World) (hn : n ≤ 1099511627776) (hx : ∀ x ∈ xs, 0 ≤ x ∧ x ≤ 255) (hr : Rd w w.heap.size 1 A n (xs.map (Value.int .u8))) :
    Calls Try.prog 64 #[.slice A n c] w fun e w' => ∃ v p, e = .returned v ∧ loB p = true ∧ w'.ownsRow w.heap.size 2 1 v p.length (ints p) ∧ Below w.heap.size w w' := by
  have h0 := hid (l00From_any A n c xs w hn hx hr)
  clear hx hr
  go_enter Try.func64, Try.ntmps64
  go_wp2_with fail
  refine h0.out.mono ?_
  rintro e w1 ⟨rfl, hs1, hb1⟩
  have z1 := hb1.size
  have l1 := hs1.lt
  clear h0
  go_wp2_with fail
  refine (l11Long_src _ A n c xs w1 hs1).mono ?_
  rintro e w2 ⟨⟨v, rfl, p, hp, ho⟩, hg2⟩
  have hB2 : Below w.heap.size w w2 := hb1.grown hg2 z1 (fun g h => by simp at h; omega)
  obtain ⟨Ap, cp, rfl⟩ := own_form ho
  have HO := hid ho
  have hz2 := hB2.size
  have HC := hid (l11Code_any Ap p.length cp p w2 (by omega) (Rd.of_own ho))
  clear hs1 hb1 hg2 ho
  go_wp2_with fail
  refine HC.out.mono ?_
  rintro e w3 ⟨rfl, hb3⟩
  have hB3 := bchain hB2 hb3
  have HO3 := hid (own_more (own_below HO.out hb3) z1)
  have hz3 := hb3.size
  clear HO HC hb3
  cases hlo : loB p with
  | true =>
    have hc0 : loC p = 0 := (loC_iff p).2 hlo
    rw [hc0]
    clear hc0
    go_wp2
    go_ret
    exact ⟨_, p, rfl, hlo, HO3.out, hB3⟩
  | false =>
    have hc0 : ¬ loC p = 0 := fun e => by rw [(loC_iff p).1 e] at hlo; cases hlo
    have hc1 : (loC p == 0) = false := by simpa using hc0
    generalize loC p = code at *
    go_wp2
    go_ret
    exact ⟨_, [5, 3, 1, 3], rfl, by decide, World.ownsRow_lit w3 #[.int .i64 5, .int .i64 3, .int .i64 1, .int .i64 3] 4 (by omega) (by simp [maxLen]) rfl, (by repeat' (first | exact Below.refl _ _ | (with_reducible assumption) | (with_reducible refine Below.alloc ?_ ?_ _) | (with_reducible refine Below.setCell ?_ ?_ _) | (with_reducible refine Below.drew ?_) | (with_reducible refine below_drewN ?_ _) | (refine Below.trans ?_ (Below.mono (by assumption) ?_)) | (with_reducible exact Nat.le_refl _) | (with_reducible assumption) | (exact Below.size (by assumption)) | omega | go_size | (simp at *; omega)))⟩
end Go.Proofs.Ytlbhfjbbkkkldaa

/- The law FnPrimes: a pattern is prime just if no state repeats, and its parts are prime patterns with all its throws and props. -/
namespace Go.Proofs.Ytlbhfjbbkkkldaa
open Go.RowKit
set_option linter.unusedVariables false

theorem fnPrimes_walk (w : World) (A : Option Addr) (n c : Nat) (xs : List Int) (hK : Came .u8 w A n c xs) :
    Calls Try.prog 8 #[.slice A n c] w fun e w' => e = .returned (.bool true) ∧ Below w.heap.size w w' := by
  have h1 := hK.2.1; have h2 := hK.2.2.1
  unfold maxLen at h2
  by_cases h : n ≤ 3000
  · exact fnPrimes_main w A n c xs hK h (hid (A2Long_any A n c xs w (by omega) hK.bytes (Rd.of_came hK)))
  · have hq : (decide (3000 < n) || decide (3000 < 0)) = true := by simp; omega
    have hL := a2Long_any A none n c 0 0 w (by omega) (by omega)
    rw [hq] at hL
    have hL := hid hL
    clear hK h hq
    exact fnPrimes_long w A n c hL
end Go.Proofs.Ytlbhfjbbkkkldaa
