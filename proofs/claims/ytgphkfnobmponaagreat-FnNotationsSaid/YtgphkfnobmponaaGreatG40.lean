/- Several texts in one: Wo, Ql, Ww. -/
import Derived.Test.YtgphkfnobmponaaGreatG36
import Derived.Deep.Slices
import Derived.ChangeSame
import Derived.SizedLaws
import Derived.Test.YtgphkfnobmponaaGreatQk
import Derived.Test.YtgphkfnobmponaaGreatG18
import Derived.Test.YtgphkfnobmponaaGreatWu
/- A notation that came in as an argument, opened: what its lists read as. -/
namespace Go.Proofs.YtgphkfnobmponaaGreat
open Go.RowKit Go.ChangeShapes Go.WideShapes Go.Deep
set_option linter.unusedVariables false

section
variable {H : Type} {enc : TypeId × Value → H} {P : Program} {w : World} {base : Nat} {held : Bool}

end
section
variable {H : Type} {enc : TypeId × Value → H} {w : World} {held : Bool}
end
end Go.Proofs.YtgphkfnobmponaaGreat

/- Contract of the reference's ExchangePasses, for drawing. -/
namespace Go.Proofs.YtgphkfnobmponaaGreat
open Go.RowKit
set_option linter.unusedVariables false

/-- The cells of a throw in a row of the call's own. -/
theorem own_at {w : World} {B n c g i : Nat} {a : List PT} (h : w.ownsRow B 83 2 (.slice (some ⟨g, 0, none⟩) n c) n (ths a)) (hi : i < n) :
    ∃ x : PT, w.cell? ⟨g, i * 2, none⟩ = some (.int .i64 x.1) ∧ w.cell? ⟨g, i * 2 + 1, none⟩ = some (.bool x.2) ∧ w.frozen? ⟨g, i * 2, none⟩ = false ∧ w.frozen? ⟨g, i * 2 + 1, none⟩ = false := by
  have hl : a.length = n := by have := h.1; rw [ths_len] at this; omega
  obtain ⟨x, hx⟩ : ∃ x, a[i]? = some x := ⟨_, List.getElem?_eq_getElem (by omega)⟩
  obtain ⟨c0, c1⟩ := ths_at hx
  refine ⟨x, ?_, ?_, h.frozenAt _, h.frozenAt _⟩
  · rw [h.cellAt _ (by omega)]; exact c0
  · rw [h.cellAt _ (by omega)]; exact c1
/-- A pattern of the call's own of n beats, and a code 0; or nothing, and another code. -/
def ExRes (B n : Nat) (e : Ending) (w : World) : Prop := (∃ x : Int, x ≠ 0 ∧ e = .returned (.tuple #[.agg #[.slice none 0 0, .slice none 0 0], .int .i64 x])) ∨ (∃ gA cA gB cB, ∃ a b : List PT, e = .returned (.tuple #[.agg #[.slice (some ⟨gA, 0, none⟩) n cA, .slice (some ⟨gB, 0, none⟩) n cB], .int .i64 0]) ∧ w.ownsRow B 83 2 (.slice (some ⟨gA, 0, none⟩) n cA) n (ths a) ∧ w.ownsRow B 83 2 (.slice (some ⟨gB, 0, none⟩) n cB) n (ths b))
theorem ExRes.no {B n : Nat} {w : World} {x : Int} (h : x ≠ 0) : ExRes B n (.returned (.tuple #[.agg #[.slice none 0 0, .slice none 0 0], .int .i64 x])) w := .inl ⟨x, h, rfl⟩
end Go.Proofs.YtgphkfnobmponaaGreat

/- l05Draw, with the bounds of the values it draws. Printed by gen_l05b.py. -/
namespace Go.Proofs.YtgphkfnobmponaaGreat
open Go.RowKit
set_option linter.unusedVariables false

def bBd (x : Beat) : Prop := 0 ≤ x.1.1 ∧ x.1.1 ≤ 14 ∧ 0 ≤ x.2.1 ∧ x.2.1 ≤ 14
theorem yBd_set {q : List Beat} {j : Nat} {b : Beat} (h : yBd q) (hb : bBd b) : yBd (q.set j b) := by
  intro x hx
  rcases List.mem_or_eq_of_mem_set hx with h1 | rfl
  · exact h x h1
  · exact hb
theorem yBd_rep (N : Nat) : Hid (yBd (List.replicate N b0)) := by
  intro x hx
  rw [List.eq_of_mem_replicate hx]
  exact ⟨by decide, by decide, by decide, by decide⟩
theorem yBd_get {q : List Beat} (h : yBd q) (j : Nat) : bBd (q.getD j b0) := by
  rw [List.getD_eq_getElem?_getD]
  cases hq : q[j]? with
  | none => exact ⟨by decide, by decide, by decide, by decide⟩
  | some x => exact h x (List.mem_of_getElem? hq)
/-- Beats of the call's own, their values digits. -/
def SyRow2 (B m : Nat) (w : World) (v : Value) : Prop := ∃ q : List Beat, 1 ≤ q.length ∧ q.length ≤ m ∧ yBd q ∧ w.ownsRow B 95 4 v q.length (bts q)
theorem sy_set2b {ws : World} {B N b c o : Nat} {q : List Beat} (h : ws.ownsRow B 95 4 (.slice (some ⟨b, 0, none⟩) N c) N (bts q)) (J : Nat) (hJ : J < N) (ho : o = J * 4 ∨ o = J * 4 + 2) (v : Int) (cr : Bool) :
    (∃ u, ws.cell? ⟨b, o, none⟩ = some u) ∧ ws.frozen? ⟨b, o, none⟩ = false ∧ (∃ u, (ws.setCell ⟨b, o, none⟩ (.int .i64 v)).cell? ⟨b, o + 1, none⟩ = some u) ∧ (ws.setCell ⟨b, o, none⟩ (.int .i64 v)).frozen? ⟨b, o + 1, none⟩ = false ∧
      ∃ q' : List Beat, q'.length = q.length ∧ (yBd q → 0 ≤ v → v ≤ 14 → yBd q') ∧ ((ws.setCell ⟨b, o, none⟩ (.int .i64 v)).setCell ⟨b, o + 1, none⟩ (.bool cr)).ownsRow B 95 4 (.slice (some ⟨b, 0, none⟩) N c) N (bts q') := by
  have hl := h.1
  have hol : o + 1 < N * 4 := by omega
  obtain ⟨h2, _⟩ := h.stored o (.int .i64 v)
  obtain ⟨h3, _⟩ := h2.stored (o + 1) (.bool cr)
  refine ⟨?_, h.frozenAt o, ?_, h2.frozenAt (o + 1), ?_⟩
  · rw [h.cellAt o (by omega)]
    exact ⟨_, List.getElem?_eq_getElem (by omega)⟩
  · rw [h2.cellAt (o + 1) (by omega)]
    exact ⟨_, List.getElem?_eq_getElem (by rw [List.length_set]; omega)⟩
  · rcases ho with rfl | rfl
    · rw [bts_set0, bts_set1] at h3
      exact ⟨_, by simp, fun hq v0 v1 => by
          have h1 := yBd_get hq J
          have h2 : yBd (q.set J ((v, (q.getD J b0).1.2), (q.getD J b0).2)) := yBd_set hq ⟨v0, v1, h1.2.2.1, h1.2.2.2⟩
          have h3 := yBd_get h2 J
          exact yBd_set h2 ⟨h3.1, h3.2.1, h3.2.2.1, h3.2.2.2⟩, h3⟩
    · rw [bts_set2, show J * 4 + 2 + 1 = J * 4 + 3 by omega, bts_set3] at h3
      exact ⟨_, by simp, fun hq v0 v1 => by
          have h1 := yBd_get hq J
          have h2 : yBd (q.set J ((q.getD J b0).1, (v, (q.getD J b0).2.2))) := yBd_set hq ⟨h1.1, h1.2.1, v0, v1⟩
          have h3 := yBd_get h2 J
          exact yBd_set h2 ⟨h3.1, h3.2.1, h3.2.2.1, h3.2.2.2⟩, h3⟩
set_option maxRecDepth 100000 in
set_option maxHeartbeats 2000000 in
theorem l05Draw_b (g : Nat) (A : Option Addr) (n c K : Nat) (xs : List Int) (most : Int) (w : World) (hK : K ≤ 1000) (hm1 : 1 ≤ most) (hm2 : most ≤ 3) (h : Src w g A n c xs K) :
    Calls Tryz.prog 94 #[.pointer (some ⟨g, 0, none⟩), .int .i64 most] w fun e w' => ∃ v, e = .returned v ∧ SyRow2 w.heap.size 3 w' v ∧ Src w' g A n c xs (K + 50) ∧ w.grownBy w' (some g) := by
  have hgl := h.lt
  have hP := hid (pick_src g A n c K xs most w (by omega) (by omega) h)
  clear h
  go_enter Tryz.func94, Tryz.ntmps94
  go_wp2_with fail
  refine hP.out.mono ?_
  rintro e w1 ⟨⟨m, m0, m1, rfl⟩, hs1, hg1⟩
  obtain ⟨N, hN⟩ : ∃ N : Nat, 1 + m = (N : Int) := ⟨(1 + m).toNat, by omega⟩
  have hN1 : 1 ≤ N := by omega
  have hN2 : N ≤ 3 := by omega
  have hz1 := hg1.size
  clear hP m1 m0
  obtain ⟨M, hM⟩ : ∃ M : Nat, 2 * (N : Int) = (M : Int) := ⟨2 * N, by omega⟩
  have hM1 : M = 2 * N := by omega
  go_wp2
  clear hN
  have ho0 : (w1.alloc (Obj.cells #[] 2)).ownsRow w.heap.size 2 1 (.slice (some ⟨w1.heap.size, 0, none⟩) 0 0) ([] : List Int).length (ints []) := World.ownsRow_lit (base := w.heap.size) w1 #[] (e := 2) (size := 1) 0 hz1 (by simp [maxLen]) rfl
  have hst : Src (w1.alloc (Obj.cells #[] 2)) g A n c xs (K + 2) := hs1.below (B := w1.heap.size) ((Below.refl _ _).alloc (Nat.le_refl _) _) (by omega)
  have hgt : w.grownBy (w1.alloc (Obj.cells #[] 2)) (some g) := grown_bl hg1 (B := w1.heap.size) ((Below.refl _ _).alloc (Nat.le_refl _) _) hz1
  clear hs1 hg1
  go_loopw [6, 7] (fun v i wr => Hid (∃ (k : Nat) (L : List Int) (K2 : Nat), i = .int .i64 k ∧ k ≤ M ∧ K2 ≤ K + 2 + 2 * k ∧ Hid (Perm k L) ∧ L.length ≤ 12 ∧ Src wr g A n c xs K2 ∧ wr.ownsRow w.heap.size 2 1 v L.length (ints L) ∧ w.grownBy wr (some g))) (fun _ i _ => M - (intOf i).toNat)
  case atStart => exact hid ⟨0, [], K + 2, rfl, by omega, by omega, Perm.nil, by simp, hst, ho0, hgt⟩
  case round =>
    clear ho0 hst hgt
    obtain ⟨k, L, K2, rfl, hk, hK2, hP, hL, hs, ho, hg⟩ := hrel.out
    clear hrel
    have hz := hg.size
    have hlk := hs.lt
    by_cases hlt : k < M
    · have hLk := hid hP.out.1
      clear hM1
      go_wp2_with fail
      refine (pick_src g A n c K2 xs ((k : Int) + 1) wr (by omega) (by omega) hs).mono ?_
      rintro e w3 ⟨⟨x, x0, x1, rfl⟩, hs3, hg3⟩
      obtain ⟨a, rfl⟩ := Int.eq_ofNat_of_zero_le x0
      have ha : a ≤ k := by omega
      have HPN : Hid (Perm (k + 1) (swapIn L k a)) := hP.out.swapIn ha
      have ho3 := own_ask ho hs hg3
      have hz3 := hg3.size
      have hg03 := grown_trans hg hg3
      have HLL : Hid ((L ++ [(k : Int)]).length = k + 1) := by show _ = _; rw [List.length_append, hLk.out]; rfl
      obtain ⟨y, hy⟩ : ∃ y, (L ++ [(k : Int)]).getD a 0 = y := ⟨_, rfl⟩
      have HSW : Hid (((L ++ [(k : Int)]).set k y).set a (k : Int) = swapIn L k a) := by show _ = _; rw [← hy]; rfl
      have HY := hid hy
      clear hs ho hg hg3 x1 hP hy
      go_wp2_with (
        at_builtin
        refine push_int ho3 (k : Int) _ Tryz.underlying24 inf_int rfl rfl _ _ rfl rfl rfl (by omega) (by omega) ?_
        intro v4 w4 ho4 hb4 hg4
        rw [HLL.out] at ho4
        obtain ⟨g4, c4, rfl, hge4, hgl4⟩ := own_block ho4 (by omega)
        have hs4 := hs3.below hb4 hgl
        have hgg4 := grown_bl hg03 hb4 (Nat.le_refl _)
        have hcA : w4.cell? ⟨g4, a, none⟩ = some (.int .i64 y) := by
          rw [ho4.cellAt a (by omega), ← HY.out]
          exact ints_at (by rw [HLL.out]; omega)
        obtain ⟨uK, hcK⟩ : ∃ u, w4.cell? ⟨g4, k, none⟩ = some u := by
          rw [ho4.cellAt k (by omega)]
          exact ⟨_, ints_at (by rw [HLL.out]; omega)⟩
        have hfK := ho4.frozenAt k
        obtain ⟨ho5, hg5⟩ := ho4.stored k (.int .i64 y)
        rw [ints_setD] at ho5
        obtain ⟨uA, hcA5⟩ : ∃ u, (w4.setCell ⟨g4, k, none⟩ (.int .i64 y)).cell? ⟨g4, a, none⟩ = some u := by
          rw [ho5.cellAt a (by omega)]
          exact ⟨_, ints_at (by rw [List.length_set, HLL.out]; omega)⟩
        have hfA5 := ho5.frozenAt a
        obtain ⟨ho6, hg6⟩ := ho5.stored a (.int .i64 (k : Int))
        rw [ints_setD, HSW.out] at ho6
        have HO6 := hid ho6
        clear ho3 ho4 ho5 ho6 hg4 hg5 hg6 hs3 hg03)
      have hb5 : Below w.heap.size w4 ((w4.setCell ⟨g4, k, none⟩ (.int .i64 y)).setCell ⟨g4, a, none⟩ (.int .i64 (k : Int))) := (by repeat' (first | exact Below.refl _ _ | (with_reducible first | assumption | exact Nat.le_refl _ | refine Below.alloc ?_ ?_ _ | refine Below.setCell ?_ ?_ _ | refine Below.drew ?_ | refine below_drewN ?_ _) | refine Below.trans ?_ (Below.mono (by assumption) ?_) | exact Below.size (by assumption) | omega | go_size | (simp at *; omega)))
      have hll := hid (swapIn_len (a := a) hLk.out)
      go_roundw
      case rel => exact hid ⟨k + 1, swapIn L k a, K2 + 2, by go_num, by omega, by omega, HPN, by rw [hll.out]; omega, hs4.below hb5 hgl, by rw [hll.out]; exact HO6.out, grown_bl hgg4 hb5 (Nat.le_refl _)⟩
      case measure => simp [intOf]; omega
    · obtain rfl : k = M := by omega
      have hLk := hid hP.out.1
      rw [hLk.out] at ho
      obtain ⟨g4, c4, rfl, hge4, hgl4⟩ := own_block ho (by omega)
      have HM1 := hid hM1
      clear hM1
      obtain ⟨wi, rfl⟩ : ∃ wi : World, wi = wr := ⟨_, rfl⟩
      go_wp2_with (at_make; refine make_bt wi.heap.size N rfl _ _ rfl .i64 .i64 rfl rfl hN2 (Nat.le_refl _) ?_; intro w5 ho5 hb5)
      have hz5 := hb5.size
      have hs5 := hs.below hb5 hlk
      have hg5 := grown_bl hg hb5 hz
      have hoL5 := own_low ho hb5 (fun g h => by have h : g4 = g := (by simpa [Value.ownBlock] using h); omega)
      have hrl : Hid ((List.replicate N b0).length = N) := by show _ = _; exact List.length_replicate
      rw [hrl.out] at ho5
      clear hs hg ho
      go_loopw [10] (fun i wx => Hid (∃ (j : Nat) (q : List Beat) (K3 : Nat), i = .int .i64 j ∧ j ≤ k ∧ K3 ≤ K + 20 + 2 * j ∧ q.length = N ∧ Src wx g A n c xs K3 ∧ wx.ownsRow wi.heap.size 95 4 (.slice (some ⟨wi.heap.size, 0, none⟩) N N) N (bts q) ∧ wx.ownsRow w.heap.size 2 1 (.slice (some ⟨g4, 0, none⟩) k c4) k (ints L) ∧ w.grownBy wx (some g) ∧ wi.heap.size ≤ wx.heap.size ∧ Hid (yBd q))) (fun i _ => k - (intOf i).toNat)
      case atStart => exact hid ⟨0, _, K2, rfl, by omega, by have := HM1.out; omega, hrl.out, hs5, ho5, hoL5, hg5, hz5, yBd_rep N⟩
      case round =>
        clear hs5 ho5 hoL5 hg5 hz5 hb5
        obtain ⟨j, q, K3, rfl, hj, hK3, hql, hs, hoq, hoL, hg, hzz, hyb⟩ := hrel.out
        clear hrel
        by_cases hlt : j < k
        · obtain ⟨l0, l1⟩ := hP.out.2.1 j hlt
          obtain ⟨l, hl⟩ : ∃ l, L.getD j 0 = l := ⟨_, rfl⟩
          rw [hl] at l0 l1
          have hcell : wr.cell? ⟨g4, j, none⟩ = some (.int .i64 l) := by
            rw [hoL.cellAt j (by omega), ← hl]
            exact ints_at (by rw [hLk.out]; exact hlt)
          obtain ⟨T0, hT0⟩ : ∃ T0, (l / 2 - (j : Int) / 2) % (N : Int) = T0 := ⟨_, rfl⟩
          have hT1 : 0 ≤ T0 := by rw [← hT0]; exact Int.emod_nonneg _ (by omega)
          have hT2 : T0 < (N : Int) := by rw [← hT0]; exact Int.emod_lt_of_pos _ (by omega)
          have hMod := hid (fun w9 => l02Mod_any (l / 2 - (j : Int) / 2) (N : Int) w9 (by omega) (by omega))
          rw [hT0] at hMod
          obtain ⟨cr, hcr⟩ : ∃ cr : Bool, (l % 2 != ((j : Int)).tmod 2) = cr := ⟨_, rfl⟩
          have hne := World.new_ne _ _ hcell
          have hw1 : IntKind.i64.wrap (l.tdiv 2) = l / 2 := by rw [Int.tdiv_eq_ediv_of_nonneg l0]; exact IntWalk.i64_in _ (by omega)
          have hw2 : IntKind.i64.wrap ((j : Int) / 2) = (j : Int) / 2 := IntWalk.i64_in _ (by omega)
          have hw3 : IntKind.i64.wrap (l / 2 - (j : Int) / 2) = l / 2 - (j : Int) / 2 := IntWalk.i64_in _ (by omega)
          have hw4 : IntKind.i64.wrap (2 * T0) = 2 * T0 := IntWalk.i64_in _ (by omega)
          have hw5 : l.tmod 2 = l % 2 := Int.tmod_eq_emod_of_nonneg l0
          have hjk : (j : Int) < (k : Int) := by omega
          have hl6 : l ≤ 6 := by have := HM1.out; omega
          have HS := hid hs
          have HOQ := hid hoq
          have HOL := hid hoL
          have HG := hid hg
          have HQL := hid hql
          clear hl hT0 hs hoq hoL hg hql
          have hgl4w := (HOL.out.lt g4 rfl).2
          go_upto_region 14 with fail
          go_cut [11] (fun s wx => Hid (∃ (gt : Nat) (V : Int), s = .pointer (some ⟨gt, 0, none⟩) ∧ gt = wr.heap.size ∧ 0 ≤ V ∧ V ≤ 4 ∧ Bx wx gt 93 #[.int .i64 V, .bool cr] ∧ Below wr.heap.size wr wx))
          case first =>
            go_region_held3 (fun w' => w'.cell? ⟨g4, j, none⟩ = some (.int .i64 l)) (go_keep) ((go_at_call 127; with_reducible refine (hMod.out _).mono ?_; rintro e w' ⟨rfl, rfl⟩))
            all_goals
              clear hw1 hw2 hw3 hw4 hw5
              go_wp2_with fail
              go_meet
              exact hid ⟨wr.heap.size, 2 * T0, rfl, rfl, by omega, by omega, Bx.new _ _ _, (by repeat' (first | exact Below.refl _ _ | (with_reducible first | assumption | exact Nat.le_refl _ | refine Below.alloc ?_ ?_ _ | refine Below.setCell ?_ ?_ _ | refine Below.drew ?_ | refine below_drewN ?_ _) | refine Below.trans ?_ (Below.mono (by assumption) ?_) | exact Below.size (by assumption) | omega | go_size | (simp at *; omega)))⟩
          case rest =>
            clear hw1 hw2 hw3 hw4 hw5 hcr hMod hne hcell l0 l1 hl6 hT1 hT2
            obtain ⟨gt, V, rfl, hgt, hV0, hV4, hbx, hbv⟩ := hcut.out
            have hgt1 : wr.heap.size ≤ gt := by omega
            clear hcut hgt
            have hzv := hbv.size
            have HSv := HS.out.below hbv (by omega)
            have HOQv := hid (own_below HOQ.out hbv)
            have HOLv := hid (own_below HOL.out hbv)
            have HGv := hid (grown_bl HG.out hbv HG.out.size)
            have hgne : gt ≠ wi.heap.size := by
              have h1 := (HOQ.out.lt wi.heap.size rfl).2
              omega
            have HSv := hid HSv
            have hsl : g < gt := by omega
            have hbx := hid hbx
            obtain ⟨wd, rfl⟩ : ∃ wd : World, wd = wc := ⟨_, rfl⟩
            have hzz1 : wi.heap.size ≤ wd.heap.size := by omega
            have hzg : w.heap.size ≤ gt := by omega
            clear hbv hzv HS HOQ HOL HG
            go_upto_region 15 with fail
            go_cut [80] (fun s wx => Hid (∃ (b : Bool) (K4 : Nat), s = .bool b ∧ K4 ≤ K3 + 2 ∧ Bx wx gt 93 #[.int .i64 V, .bool cr] ∧ Src wx g A n c xs K4 ∧ wx.ownsRow wi.heap.size 95 4 (.slice (some ⟨wi.heap.size, 0, none⟩) N N) N (bts q) ∧ wx.ownsRow w.heap.size 2 1 (.slice (some ⟨g4, 0, none⟩) k c4) k (ints L) ∧ w.grownBy wx (some g) ∧ wi.heap.size ≤ wx.heap.size))
            case first =>
              have hx0 : wd.cell? ⟨gt, 0, none⟩ = some (.int .i64 V) := hbx.out.cell 0
              have hx1 : wd.cell? ⟨gt, 1, none⟩ = some (.bool cr) := hbx.out.cell 1
              by_cases hV : V = 0
              · subst hV
                cases cr
                · skip
                  go_wp2_with fail
                  refine (one_src g A n c K3 xs 2 _ (by omega) (by omega) HSv.out).mono ?_
                  rintro e w6 ⟨⟨b, rfl⟩, hs6, hg6⟩
                  go_wp2_with fail
                  go_meet
                  exact hid ⟨b, K3 + 2, rfl, by omega, hbx.out.grown hg6 (by simp; omega), hs6, own_ask' HOQv.out HSv.out hg6, own_ask HOLv.out HSv.out hg6, grown_trans HGv.out hg6, Nat.le_trans hzz1 hg6.size⟩
                · skip
                  go_wp2_with fail
                  go_meet
                  exact hid ⟨true, K3, rfl, by omega, hbx.out, HSv.out, HOQv.out, HOLv.out, HGv.out, hzz1⟩
              · have hq : (V == 0) = false := by simpa using hV
                clear hV
                go_wp2_with fail
                refine (one_src g A n c K3 xs 2 _ (by omega) (by omega) HSv.out).mono ?_
                rintro e w6 ⟨⟨b, rfl⟩, hs6, hg6⟩
                go_wp2_with fail
                go_meet
                exact hid ⟨b, K3 + 2, rfl, by omega, hbx.out.grown hg6 (by simp; omega), hs6, own_ask' HOQv.out HSv.out hg6, own_ask HOLv.out HSv.out hg6, grown_trans HGv.out hg6, Nat.le_trans hzz1 hg6.size⟩
            case rest =>
              clear hbx HSv HOQv HOLv HGv hzz1
              obtain ⟨b, K4, rfl, hK4, hbx, hs, hoq, hoL, hg, hzz⟩ := hcut.out
              clear hcut
              have hzc := hbx.lt
              have HBX := hid hbx
              have HS := hid hs
              have HOQ := hid hoq
              have HOL := hid hoL
              have HG := hid hg
              have hx0 : wc.cell? ⟨gt, 0, none⟩ = some (.int .i64 V) := hbx.cell 0
              have hxf := hbx.frozen 0
              clear hbx hs hoq hoL hg
              obtain ⟨we, rfl⟩ : ∃ we : World, we = wc := ⟨_, rfl⟩
              go_upto_if 80 with fail
              go_cut [] (fun wx => Hid (∃ V : Int, (0 ≤ V ∧ V ≤ 14) ∧ Bx wx gt 93 #[.int .i64 V, .bool cr] ∧ Src wx g A n c xs K4 ∧ wx.ownsRow wi.heap.size 95 4 (.slice (some ⟨wi.heap.size, 0, none⟩) N N) N (bts q) ∧ wx.ownsRow w.heap.size 2 1 (.slice (some ⟨g4, 0, none⟩) k c4) k (ints L) ∧ w.grownBy wx (some g) ∧ wi.heap.size ≤ wx.heap.size))
              case first =>
                cases b
                · go_wp2_with fail
                  go_meet
                  exact hid ⟨V, ⟨by omega, by omega⟩, HBX.out, HS.out, HOQ.out, HOL.out, HG.out, hzz⟩
                · go_wp2_with fail
                  go_meet
                  have hbs : Below wi.heap.size we (we.setCell ⟨gt, 0, none⟩ (.int .i64 (V + (k : Int)))) := (by repeat' (first | exact Below.refl _ _ | (with_reducible first | assumption | exact Nat.le_refl _ | refine Below.alloc ?_ ?_ _ | refine Below.setCell ?_ ?_ _ | refine Below.drew ?_ | refine below_drewN ?_ _) | refine Below.trans ?_ (Below.mono (by assumption) ?_) | exact Below.size (by assumption) | omega | go_size | (simp at *; omega)))
                  exact hid ⟨V + (k : Int), ⟨by omega, by have := HM1.out; omega⟩, HBX.out.set_ 0 _, HS.out.below hbs hlk, HOQ.out.kept (grown_set we gt 0 _) (.inr (fun e => hgne (by simpa [Value.ownBlock] using e.symm))), own_low HOL.out hbs (fun g h => by have h : g4 = g := (by simpa [Value.ownBlock] using h); omega), grown_bl HG.out hbs hz, by simp; omega⟩
              case rest =>
                clear HBX HS HOQ HOL HG hx0 hxf
                obtain ⟨V, hVb, hbx, hs, hoq, hoL, hg, hzz⟩ := hcut.out
                clear hcut
                have hx0 : wc.cell? ⟨gt, 0, none⟩ = some (.int .i64 V) := hbx.cell 0
                have hx1 : wc.cell? ⟨gt, 1, none⟩ = some (.bool cr) := hbx.cell 1
                have HS := hid hs
                have HOL := hid hoL
                have HG := hid hg
                clear hbx hs hoL hg
                obtain ⟨J, hJ⟩ : ∃ J : Nat, (j : Int) / 2 = (J : Int) := ⟨j / 2, by omega⟩
                have hJN : J < N := by have := HM1.out; omega
                have hJi : (J : Int) < (N : Int) := by omega
                by_cases hpar : j % 2 = 0
                · have hq : ((j : Int) % 2 == 0) = true := by simp; omega
                  obtain ⟨⟨ua, hca⟩, hfa, ⟨ub, hcb⟩, hfb, q', hq', hyq, hor⟩ := sy_set2b hoq J hJN (.inl rfl) V cr
                  have HOR := hid hor
                  have HYQ := hid (hyq hyb.out hVb.1 hVb.2)
                  clear hyq
                  have hbS : Below wi.heap.size wc ((wc.setCell ⟨wi.heap.size, J * 4, none⟩ (.int .i64 V)).setCell ⟨wi.heap.size, J * 4 + 1, none⟩ (.bool cr)) := (by repeat' (first | exact Below.refl _ _ | (with_reducible first | assumption | exact Nat.le_refl _ | refine Below.alloc ?_ ?_ _ | refine Below.setCell ?_ ?_ _ | refine Below.drew ?_ | refine below_drewN ?_ _) | refine Below.trans ?_ (Below.mono (by assumption) ?_) | exact Below.size (by assumption) | omega | go_size | (simp at *; omega)))
                  have HQ' := hid hq'
                  clear hor hpar hq' hoq
                  go_wp2
                  go_roundw
                  case rel => exact hid ⟨j + 1, q', K4, by go_num, by omega, by omega, by rw [HQ'.out, HQL.out], HS.out.below hbS hlk, HOR.out, own_low HOL.out hbS (fun g h => by have h : g4 = g := (by simpa [Value.ownBlock] using h); omega), grown_bl HG.out hbS hz, by simp; omega, HYQ⟩
                  case measure => simp [intOf]; omega
                · have hq : ((j : Int) % 2 == 0) = false := by simp; omega
                  obtain ⟨⟨ua, hca⟩, hfa, ⟨ub, hcb⟩, hfb, q', hq', hyq, hor⟩ := sy_set2b hoq J hJN (.inr rfl) V cr
                  have HOR := hid hor
                  have HYQ := hid (hyq hyb.out hVb.1 hVb.2)
                  clear hyq
                  have hbS : Below wi.heap.size wc ((wc.setCell ⟨wi.heap.size, J * 4 + 2, none⟩ (.int .i64 V)).setCell ⟨wi.heap.size, J * 4 + 2 + 1, none⟩ (.bool cr)) := (by repeat' (first | exact Below.refl _ _ | (with_reducible first | assumption | exact Nat.le_refl _ | refine Below.alloc ?_ ?_ _ | refine Below.setCell ?_ ?_ _ | refine Below.drew ?_ | refine below_drewN ?_ _) | refine Below.trans ?_ (Below.mono (by assumption) ?_) | exact Below.size (by assumption) | omega | go_size | (simp at *; omega)))
                  have HQ' := hid hq'
                  clear hor hpar hq' hoq
                  go_wp2
                  go_roundw
                  case rel => exact hid ⟨j + 1, q', K4, by go_num, by omega, by omega, by rw [HQ'.out, HQL.out], HS.out.below hbS hlk, HOR.out, own_low HOL.out hbS (fun g h => by have h : g4 = g := (by simpa [Value.ownBlock] using h); omega), grown_bl HG.out hbS hz, by simp; omega, HYQ⟩
                  case measure => simp [intOf]; omega
        · have hzw := hg.size
          have HQL := hid hql
          clear hql
          go_wp2
          go_ret
          exact ⟨_, rfl, ⟨q, by rw [HQL.out]; exact hN1, by rw [HQL.out]; exact hN2, hyb.out, by rw [HQL.out]; exact own_more hoq hz⟩, hs.more (by have := HM1.out; omega), hg⟩
end Go.Proofs.YtgphkfnobmponaaGreat
