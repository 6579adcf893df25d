/- Several texts in one: Fl. -/
import Derived.Test.YtlbhfjbbkkkldaaK1
import Derived.Test.YtlbhfjbbkkkldaaDw
import Derived.StillTailTactics
/- Contract of l09Arcs. -/
namespace Go.Proofs.Ytlbhfjbbkkkldaa
open Go.RowKit
set_option linter.unusedVariables false

theorem cells3 {w : World} {g : Nat} {x y z : Value} (h0 : w.cell? ⟨g, 0, none⟩ = some x) (h1 : w.cell? ⟨g, 1, none⟩ = some y) (h2 : w.cell? ⟨g, 2, none⟩ = some z) : ∀ j u, (#[x, y, z] : Array Value).toList[j]? = some u → w.cell? ⟨g, j, none⟩ = some u := by
  intro j u hu
  match j with
  | 0 => simp at hu; subst hu; exact h0
  | 1 => simp at hu; subst hu; exact h1
  | 2 => simp at hu; subst hu; exact h2
  | j + 3 => simp at hu
set_option maxRecDepth 100000 in
set_option maxHeartbeats 4000000 in
theorem l09Arcs_any (A : Option Addr) (n c : Nat) (p : Int) (h : Nat) (w : World) (h1 : 1 ≤ h) (hh : h ≤ 10) (hr : Rd w w.heap.size 1 A n (ints (msks p (h : Int)))) :
    Calls Try.prog 203 #[.slice A n c, .int .i64 (h : Int)] w fun e w' => ∃ v ar, e = .returned v ∧ ar.length ≤ 11264 ∧ w'.ownsRow w.heap.size 179 3 v ar.length (arcs ar) ∧ ArcAll (msks p (h : Int)) h ar ∧ Below w.heap.size w w' := by
  have hlen := hr.len
  have hn : n ≤ 1024 := by have := msks_len (p := p) (h := (h : Int)) (by omega) (by omega); omega
  have hpw : (msks p (h : Int)).Pairwise (· < ·) := mskL_rises _ _ _ _
  have hmem := fun (x : Int) (hx : x ∈ msks p (h : Int)) => msks_mem.1 hx
  have HNX := hid (fun (m t : Int) (hm : m ∈ msks p (h : Int)) (k : canB (h : Int) m t = true) => show ∃ j : Nat, (msks p (h : Int))[j]? = some (nextM m t) from by
    obtain ⟨m0, m1, mp⟩ := msks_mem.1 hm
    obtain ⟨n0, n1, np⟩ := next_facts hh m0 m1 k
    obtain ⟨j, hj, e⟩ := List.getElem_of_mem (msks_mem (p := p) (h := h) (x := nextM m t).2 ⟨n0, n1, by rw [np]; exact mp⟩)
    exact ⟨j, by rw [List.getElem?_eq_getElem hj, e]⟩)
  have HR := hid hr
  have HP := hid hpw
  have HMM := hid hmem
  have HLN := hid hlen
  generalize msks p (h : Int) = ms at *
  clear hr hpw hmem hlen
  go_enter Try.func203, Try.ntmps203
  go_wp2
  go_loopw [5, 6] (fun v i wr => Hid (∃ (k : Nat) (ar : List Arc3), k ≤ n ∧ i = .int .i64 k ∧ ArcP ms h ar k 0 ∧ ar.length ≤ k * 11 ∧ wr.ownsRow w.heap.size 179 3 v ar.length (arcs ar) ∧ Below w.heap.size w wr)) (fun _ i _ => n - (intOf i).toNat)
  case atStart => exact hid ⟨0, [], Nat.zero_le _, rfl, ArcP.nil _ _, by simp, World.ownsRow_lit _ _ 0 (Nat.le_refl _) (by simp [maxLen]) rfl, (by repeat' (first | exact Below.refl _ _ | (with_reducible assumption) | (with_reducible refine Below.alloc ?_ ?_ _) | (with_reducible refine Below.setCell ?_ ?_ _) | (with_reducible refine Below.drew ?_) | (with_reducible refine below_drewN ?_ _) | (refine Below.trans ?_ (Below.mono (by assumption) ?_)) | (with_reducible exact Nat.le_refl _) | (with_reducible assumption) | (exact Below.size (by assumption)) | omega | go_size | (simp at *; omega)))⟩
  case round =>
    obtain ⟨k, ar, hk, rfl, hP, hal, ho, hb0⟩ := hrel.out
    clear hrel
    obtain ⟨wi, hwi⟩ : ∃ wi, wi = wr := ⟨_, rfl⟩
    subst hwi
    have hz0 := hb0.size
    by_cases hkn : k < n
    · have hkn2 : (k : Int) < (n : Int) := by omega
      obtain ⟨b, off, m, hA, hb, hm, _, hc⟩ := (HR.out.below hb0 (Nat.le_refl _)).at_ hkn
      have hmm := List.mem_of_getElem? hm
      obtain ⟨m0, m1, mp⟩ := HMM.out m hmm
      have hm1023 : m ≤ 1023 := by have := pow10 hh; have e : ((2 ^ h : Nat) : Int) = 2 ^ h := by simp
                                   omega
      have hX : Hid (Bx (wi.alloc (Obj.cells #[.int .i64 (h : Int), .int .i64 m] 119)) wi.heap.size 119 #[.int .i64 (h : Int), .int .i64 m]) := Bx.new _ _ _
      have hT := hid (l08Throws_any h m (wi.alloc (Obj.cells #[.int .i64 (h : Int), .int .i64 m] 119)) hh)
      have hO := hid (ho.alloc (Obj.cells #[.int .i64 (h : Int), .int .i64 m] 119))
      have hbwi : b < wi.heap.size := by omega
      have HM := hid hm
      have HMI := hid hmm
      subst hA
      clear ho hm hmm mp m1
      go_wp2_with fail
      refine hT.out.mono ?_
      rintro e w1 ⟨v1, rfl, hL, hb1⟩
      have hz1 := hb1.size
      simp only [World.size_alloc] at hz1
      have hX1 := hid (hX.out.below hb1 (by simp))
      have hO1 := hid (own_below hO.out hb1)
      have hL1 := hid (own_more hL (show w.heap.size ≤ _ by simp; omega))
      have hB1 : Hid (Below w.heap.size w w1) := (hb0.alloc hz0 _).trans (hb1.mono (by simp; omega))
      have hll : (thF (h : Int) m (h + 1) 0).length ≤ 11 := by have := thF_len (h : Int) m (h + 1) 0; omega
      have hTM := hid (fun (t : Int) (ht : t ∈ thF (h : Int) m (h + 1) 0) => thF_mem.1 ht)
      have HPS := hid (fun (ar : List Arc3) (t : Nat) (x : Int) (j : Nat) (g : ArcP ms h ar k t) (ht : (thF (h : Int) m (h + 1) 0)[t]? = some x) (hj : ms[j]? = some (nextM m x)) => g.push HP.out HM.out ht hj)
      have HPN := hid (fun (ar : List Arc3) (t : Nat) (g : ArcP ms h ar k t) (ht : (thF (h : Int) m (h + 1) 0).length ≤ t) => g.next HM.out ht)
      generalize thF (h : Int) m (h + 1) 0 = L at *
      obtain ⟨AL, cL, rfl⟩ := own_form hL1.out
      have HP0 := hid hP
      clear hT hO hX hL hb1 hP hb0 hc
      go_wp2
      go_loopw [5, 9] (fun v i wr => Hid (∃ (t : Nat) (ar : List Arc3), t ≤ L.length ∧ i = .int .i64 t ∧ ArcP ms h ar k t ∧ ar.length ≤ k * 11 + t ∧ wr.ownsRow w.heap.size 179 3 v ar.length (arcs ar) ∧ wr.ownsRow w.heap.size 2 1 (.slice AL L.length cL) L.length (ints L) ∧ Bx wr wi.heap.size 119 #[.int .i64 (h : Int), .int .i64 m] ∧ Below w.heap.size w wr)) (fun _ i _ => L.length - (intOf i).toNat)
      case atStart => exact hid ⟨0, ar, Nat.zero_le _, rfl, HP0.out, by omega, hO1.out, hL1.out, hX1.out, hB1.out⟩
      case round =>
        clear HP0 hO1 hL1 hX1 hB1 hal
        obtain ⟨t, ar, ht, rfl, hP, hal, ho, hol, hbx, hb2⟩ := hrel.out
        clear hrel
        have hz2 := hb2.size
        have hzx := hbx.lt
        by_cases htl : t < L.length
        · have htl2 : (t : Int) < (L.length : Int) := by omega
          obtain ⟨gl, cl, e1, hg1, hg2⟩ := own_block hol (by omega)
          injection e1 with e1 _ e2
          subst e1 e2
          obtain ⟨x, hx⟩ : ∃ x, L[t]? = some x := ⟨_, List.getElem?_eq_getElem htl⟩
          obtain ⟨x0, x1, xc⟩ := hTM.out x (List.mem_of_getElem? hx)
          obtain ⟨j, hj⟩ := HNX.out m x HMI.out xc
          have hcl := hol.cellAt t (by omega)
          rw [ints, List.getElem?_map, hx] at hcl
          replace hcl : wr.cell? ⟨gl, t, none⟩ = some (.int .i64 x) := hcl
          have q0 : wr.cell? ⟨wi.heap.size, 0, none⟩ = some (.int .i64 (h : Int)) := hbx.cell 0
          have q1 : wr.cell? ⟨wi.heap.size, 1, none⟩ = some (.int .i64 m) := hbx.cell 1
          have HP2 := hid (HPS.out ar t x j hP hx hj)
          have HJ := hid hj
          have HNxt := hid (fun (w' : World) => l08Next_any (h : Int) m x w' (by omega) m0)
          have HFin := hid (fun (W : World) (bW : Below wr.heap.size wr W) => show W.ownsRow w.heap.size 179 3 _ ar.length (arcs ar) ∧ W.ownsRow w.heap.size 2 1 (.slice (some ⟨gl, 0, none⟩) L.length cL) L.length (ints L) ∧ Bx W wi.heap.size 119 #[.int .i64 (h : Int), .int .i64 m] ∧ Below w.heap.size w W ∧ W.cell? ⟨gl, t, none⟩ = some (.int .i64 x) from
            ⟨own_below ho bW, own_below hol bW, hbx.below bW hbx.lt, bchain hb2 bW, (bW.cell (p := ⟨gl, t, none⟩) hg2).trans hcl⟩)
          clear ho hol hbx hb2 hx hj hP
          go_upto_region 10 with fail
          go_cut [10] (fun v10 wx => Hid (∃ gN : Nat, v10 = .pointer (some ⟨gN, 0, none⟩) ∧ Bx wx gN 119 #[.int .i64 (h : Int), .int .i64 (nextM m x)] ∧ Below wr.heap.size wr wx))
          case first =>
            go_wp2
            go_region_law (go_simp; go_wp2_with (go_at_call 207; with_reducible refine (HNxt.out _).mono ?_; rintro e w5 ⟨rfl, hb5⟩; have z5 := hb5.size; have B5 : Below wr.heap.size wr w5 := (by repeat' (first | exact Below.refl _ _ | (with_reducible assumption) | (with_reducible refine Below.alloc ?_ ?_ _) | (with_reducible refine Below.setCell ?_ ?_ _) | (with_reducible refine Below.drew ?_) | (with_reducible refine below_drewN ?_ _) | (refine Below.trans ?_ (Below.mono (by assumption) ?_)) | (with_reducible exact Nat.le_refl _) | (with_reducible assumption) | (exact Below.size (by assumption)) | omega | go_size | (simp at *; omega))); try (have X5 := hid (Bx.below (show Bx _ wr.heap.size 119 #[.int .i64 0, .int .i64 0] by first | exact Bx.new _ _ _ | exact Bx.drew (Bx.new _ _ _)) hb5 (by simp)); have x50 := X5.out.cell 0; have x51 := X5.out.cell 1; have f50 := X5.out.frozen 0; have f51 := X5.out.frozen 1)))
            all_goals
              go_wp2_with fail
              go_meet
              first
                | exact hid ⟨wr.heap.size, rfl, (X5.out.set_ 0 _).set_ 1 _, Below.setCell (Below.setCell B5 (Nat.le_refl _) _) (Nat.le_refl _) _⟩
                | exact hid ⟨w5.heap.size, rfl, Bx.new _ _ _, Below.alloc B5 B5.size _⟩
          case rest =>
            obtain ⟨gN, rfl, hN, bW⟩ := hcut.out
            clear hcut hcl q0 q1
            obtain ⟨oA, oL, oX, oB, oc⟩ := HFin.out _ bW
            clear HFin HNxt
            have n1 : wc.cell? ⟨gN, 1, none⟩ = some (.int .i64 (nextM m x)) := hN.cell 1
            have hgN := hN.lt
            obtain ⟨Aq, cq, rfl⟩ := own_form oA
            have HF := hid (fun (w' : World) (b' : Below wc.heap.size wc w') => l09Find_any (some ⟨b, off, none⟩) n c ms (nextM m x) j w' (by omega) HP.out HJ.out ((HR.out.below (bchain oB b') (Nat.le_refl _)).more (bchain oB b').size))
            have hzc := bW.size
            have hglc : gl < wc.heap.size := by omega
            have OA := hid oA
            have HAP := hid (fun (W1 w9 : World) (v9 : Value) (b1 : Below wc.heap.size wc W1) (ho9 : w9.ownsRow w.heap.size 179 3 v9 (ar.length + 1) (arcs ar ++ #[.int .i64 (k : Int), .int .i64 x, .int .i64 (j : Int)].toList)) (hb9 : Below w.heap.size W1 w9) (hg9 : W1.grownBy w9 (Value.slice Aq ar.length cq).ownBlock) => show Hid (w9.ownsRow w.heap.size 179 3 v9 (ar.length + 1) (arcs (ar ++ [((k : Int), x, (j : Int))])) ∧ w9.ownsRow w.heap.size 2 1 (.slice (some ⟨gl, 0, none⟩) L.length cL) L.length (ints L) ∧ Bx w9 wi.heap.size 119 #[.int .i64 (h : Int), .int .i64 m] ∧ Below w.heap.size w w9) from by
              have a1 := own_below oA b1
              have l1 := own_below oL b1
              have x1 := oX.below b1 oX.lt
              refine hid ⟨?_, own_types l1 a1 (by decide) hg9, x1.grown hg9 (fun e => own_bne a1 x1 (by decide) e.symm), (bchain oB b1).trans hb9⟩
              rw [← arcs_snoc]; exact ho9)
            clear oA oL oX oB hN bW HR
            go_wp2
            go_region_law (first
              | (refine step_push_own (base := w.heap.size) (sz := 3) (e := 179) (n := ar.length) (xs := arcs ar) (by first | exact OA.out.alloc _ | exact own_drewA (OA.out.alloc _) | exact (own_drewA OA.out).alloc _ | exact own_drewA ((own_drewA OA.out).alloc _)) wc.heap.size #[.int .i64 (k : Int), .int .i64 x, .int .i64 (j : Int)] (cells3 (by first | (simp; done) | (show (World.alloc _ _).cell? _ = _; rw [World.cell?_alloc_at _ _ _ _ (by first | rfl | simp)]; first | done | rfl)) (by first | (simp; done) | (show (World.alloc _ _).cell? _ = _; rw [World.cell?_alloc_at _ _ _ _ (by first | rfl | simp)]; first | done | rfl)) (by first | (simp; done) | (show (World.alloc _ _).cell? _ = _; rw [World.cell?_alloc_at _ _ _ _ (by first | rfl | simp)]; first | done | rfl))) rfl (arc_one _ _ _) Try.underlying176 inf_arc rfl (by omega) rfl _ _ rfl rfl rfl (by omega) (by omega) (by first | (simp; omega) | (simp [World.drewN]; omega)) (by first | (simp; done) | (simp [World.drewN]; done)) ?_; intro v9 w9 ho9 hb9 hg9; have F9 := HAP.out _ w9 v9 (by first | exact ((Below.refl _ _).alloc (Nat.le_refl _) _) | exact (by repeat' (first | exact Below.refl _ _ | (with_reducible assumption) | (with_reducible refine Below.alloc ?_ ?_ _) | (with_reducible refine Below.setCell ?_ ?_ _) | (with_reducible refine Below.drew ?_) | (with_reducible refine below_drewN ?_ _) | (refine Below.trans ?_ (Below.mono (by assumption) ?_)) | (with_reducible exact Nat.le_refl _) | (with_reducible assumption) | (exact Below.size (by assumption)) | omega | go_size | (simp at *; omega)))) ho9 hb9 hg9; clear ho9 hb9 hg9)
              | (go_simp; go_wp2_with (go_at_call 205; with_reducible refine (HF.out _ ?_).mono ?_; (exact (by repeat' (first | exact Below.refl _ _ | (with_reducible assumption) | (with_reducible refine Below.alloc ?_ ?_ _) | (with_reducible refine Below.setCell ?_ ?_ _) | (with_reducible refine Below.drew ?_) | (with_reducible refine below_drewN ?_ _) | (refine Below.trans ?_ (Below.mono (by assumption) ?_)) | (with_reducible exact Nat.le_refl _) | (with_reducible assumption) | (exact Below.size (by assumption)) | omega | go_size | (simp at *; omega)))); rintro e w' ⟨rfl, rfl⟩)))
            all_goals
              clear HAP HF OA oc n1
              obtain ⟨A9, c9, rfl⟩ := own_form F9.out.1
              go_simp
              go_wp2
              go_roundw
              case rel => exact hid ⟨t + 1, _, by omega, by go_num, HP2.out, by rw [List.length_append, List.length_singleton]; omega, by rw [List.length_append, List.length_singleton]; exact F9.out.1, F9.out.2.1, F9.out.2.2.1, F9.out.2.2.2⟩
              case measure => simp [intOf]; omega
        · have htl2 : ¬ (t : Int) < (L.length : Int) := by omega
          have HP3 := hid (HPN.out ar t hP (by omega))
          have HO := hid ho
          obtain ⟨Aq, cq, rfl⟩ := own_form ho
          clear ho hol hbx hP
          go_wp2
          go_roundw
          case rel => exact hid ⟨k + 1, ar, by omega, by go_num, HP3.out, by omega, HO.out, hb2⟩
          case measure => simp [intOf]; omega
    · obtain rfl : k = n := by omega
      have hkn2 : ¬ (k : Int) < (k : Int) := by omega
      have HO := hid ho
      have HD := hid (hP.done (by have := HLN.out; omega))
      obtain ⟨Aq, cq, rfl⟩ := own_form ho
      clear ho hP
      go_wp2
      go_ret
      first
        | exact ⟨_, rfl, ar, by omega, HO.out, HD.out, hb0⟩
        | exact ⟨_, ar, rfl, by omega, HO.out, HD.out, hb0⟩
end Go.Proofs.Ytlbhfjbbkkkldaa
