/- Several texts in one: Ff. -/
import Derived.Test.YtlbhfjbbkkkldaaK1
import Derived.StillTailTactics
/- Contract of l09Far: a search in breadth. -/
namespace Go.Proofs.Ytlbhfjbbkkkldaa
open Go.RowKit
set_option linter.unusedVariables false

theorem rep_snoc (k : Nat) (x : Int) : List.replicate k x ++ [x] = List.replicate (k + 1) x := List.replicate_succ'.symm
theorem rep_snocL (k : Nat) : List.replicate k ([] : List Int) ++ [[]] = List.replicate (k + 1) [] := List.replicate_succ'.symm
/-- A slice's block is not this one, and none from lo to hi - 1. -/
def Far2 (v : Value) (go lo hi : Nat) : Prop := ∀ g, v.ownBlock = some g → g ≠ go ∧ (g < lo ∨ hi ≤ g)
theorem Far2.same {v v' : Value} {go lo hi B : Nat} (h : Far2 v go lo hi) (k : SameOr v v' B) (hB : hi ≤ B) (hg : go < B) : Far2 v' go lo hi := by
  intro g hgg
  rcases k with k | ⟨g2, k, hb⟩
  · exact h g (k ▸ hgg)
  · rw [k] at hgg
    obtain rfl : g2 = g := Option.some.inj hgg
    exact ⟨by omega, .inr (by omega)⟩
/-- Where the search's lists lie: out in the block go, the queue elsewhere, the rows between. -/
def FarM (B0 go cO lo hi n : Nat) (A : Option Addr) (v : Value) (outL qs : List Int) (rows : List (List Int)) (w : World) : Prop :=
  w.ownsRow B0 2 1 (.slice (some ⟨go, 0, none⟩) n cO) n (ints outL) ∧ w.ownsRow B0 2 1 v qs.length (ints qs) ∧ Far2 v go lo hi ∧ RdH w lo hi A n rows ∧ go < lo ∧ hi ≤ w.heap.size
section
variable {B0 go cO lo hi n : Nat} {A : Option Addr} {v : Value} {outL qs : List Int} {rows : List (List Int)} {w w5 : World}
theorem FarM.set (h : FarM B0 go cO lo hi n A v outL qs rows w) (i : Nat) (d : Int) : FarM B0 go cO lo hi n A v (outL.set i d) qs rows (w.setCell ⟨go, i, none⟩ (.int .i64 d)) := by
  obtain ⟨h1, h2, h3, h4, h5, h6⟩ := h
  obtain ⟨k1, k2⟩ := h1.stored i (.int .i64 d)
  refine ⟨by rw [← ints_setD]; exact k1, h2.kept k2 ?_, h3, h4.setCell (.inl h5) _, h5, by simpa using h6⟩
  cases hb : v.ownBlock with
  | none => exact .inl rfl
  | some g => exact .inr (fun e => (h3 g hb).1 (by simpa [Value.ownBlock] using e))
theorem FarM.push {v5 : Value} {x : Int} (h : FarM B0 go cO lo hi n A v outL qs rows w) (ho : w5.ownsRow B0 2 1 v5 (qs ++ [x]).length (ints (qs ++ [x]))) (hg : w.grownBy w5 v.ownBlock) (hs : SameOr v v5 w.heap.size) : FarM B0 go cO lo hi n A v5 outL (qs ++ [x]) rows w5 := by
  obtain ⟨h1, h2, h3, h4, h5, h6⟩ := h
  have hgo := (h1.lt go rfl).2
  refine ⟨h1.kept hg (.inr fun e => ?_), ho, h3.same hs h6 hgo, h4.keep fun p p0 p1 => World.cell?_of_block (hg.block p.block (by omega) (fun e => ?_)), h5, Nat.le_trans h6 hg.size⟩
  · exact (h3 go (by rw [← e]; rfl)).1 rfl
  · have := (h3 p.block e.symm).2; omega
end
set_option maxRecDepth 100000 in
set_option maxHeartbeats 4000000 in
theorem l09Far_any (A A2 : Option Addr) (n c m c2 s : Nat) (ms : List Int) (ar : List Arc3) (w : World) (hn : n ≤ 1024) (hm : m ≤ 100000) (hs : s < n) (hin : ArcIn n ar) (hr : Rd w w.heap.size 1 A n (ints ms)) (hr2 : Rd w w.heap.size 3 A2 m (arcs ar)) :
    Calls Try.prog 204 #[.slice A n c, .slice A2 m c2, .int .i64 (s : Int)] w fun e w' => ∃ v out, e = .returned v ∧ w'.ownsRow w.heap.size 2 1 v out.length (ints out) ∧ FarOk n s (pairs ar) out ∧ Below w.heap.size w w' := by
  have hl2 := hr2.arc_len
  have HR2 := hid hr2
  have HIN := hid hin
  have HL2 := hid hl2
  clear hr2 hin hr hl2
  go_enter Try.func204, Try.ntmps204
  go_wp2
  go_loopw [7, 8] (fun v i wr => Hid (∃ k : Nat, k ≤ n ∧ i = .int .i64 k ∧ wr.ownsRow w.heap.size 2 1 v (List.replicate k (-1 : Int)).length (ints (List.replicate k (-1))) ∧ Below w.heap.size w wr)) (fun _ i _ => n - (intOf i).toNat)
  case atStart => exact hid ⟨0, Nat.zero_le _, rfl, World.ownsRow_lit _ _ 0 (Nat.le_refl _) (by simp [maxLen]) rfl, (by repeat' (first | exact Below.refl _ _ | (with_reducible assumption) | (with_reducible refine Below.alloc ?_ ?_ _) | (with_reducible refine Below.setCell ?_ ?_ _) | (with_reducible refine Below.drew ?_) | (with_reducible refine below_drewN ?_ _) | (refine Below.trans ?_ (Below.mono (by assumption) ?_)) | (with_reducible exact Nat.le_refl _) | (with_reducible assumption) | (exact Below.size (by assumption)) | omega | go_size | (simp at *; omega)))⟩
  case round =>
    obtain ⟨k, hk, rfl, ho, hb0⟩ := hrel.out
    clear hrel
    have hz0 := hb0.size
    have hrl : (List.replicate k (-1 : Int)).length ≤ 1024 := by simp; omega
    by_cases hlt : k < n
    · go_wp2_with (at_builtin; refine push_int ho (-1) _ Try.underlying43 inf_int rfl rfl _ _ rfl rfl rfl (by omega) (by omega) ?_; intro v2 w2 ho2 hb2 hg2)
      go_roundw
      case rel => exact hid ⟨k + 1, by omega, by go_num, by rw [← rep_snoc]; exact ho2, hb0.trans hb2⟩
      case measure => simp [intOf]; omega
    · obtain rfl : k = n := by omega
      rw [List.length_replicate] at ho hrl
      obtain ⟨go, cO, rfl, hgo, hgl⟩ := own_block ho (by omega)
      obtain ⟨ko, kg⟩ := ho.stored s (.int .i64 0)
      rw [ints_setD] at ko
      have hf0 := ho.frozenAt s
      have hc0 : wr.cell? ⟨go, s, none⟩ = some (.int .i64 (-1)) := by
        rw [ho.cellAt s (by omega), ints, List.getElem?_map, List.getElem?_replicate, if_pos hs]; rfl
      have hbS : Below w.heap.size w (wr.setCell ⟨go, s, none⟩ (.int .i64 0)) := Below.setCell hb0 (by show w.heap.size ≤ go; omega) _
      obtain ⟨wS, hwS⟩ : ∃ wS, wr.setCell ⟨go, s, none⟩ (.int .i64 0) = wS := ⟨_, rfl⟩
      have hzS : Hid (wS.heap.size = wr.heap.size) := by show _ = _; rw [← hwS]; simp
      have KO : Hid (wS.ownsRow w.heap.size 2 1 (.slice (some ⟨go, 0, none⟩) k cO) k (ints ((List.replicate k (-1)).set s 0))) := by rw [← hwS]; exact ko
      have KB : Hid (Below w.heap.size w wS) := by rw [← hwS]; exact hbS
      have hs2 : (s : Int) < (k : Int) := by omega
      clear ko kg ho hbS
      go_upto_region 7 with fail
      try rw [hwS]
      clear hc0 hf0 hwS
      have KQ : Hid (((wS.alloc (Obj.cells #[.int .i64 (s : Int)] 2)).alloc (Obj.cells #[] 43)).ownsRow w.heap.size 2 1 (.slice (some ⟨wS.heap.size, 0, none⟩) 1 1) ([(s : Int)] : List Int).length (ints [(s : Int)])) := by
        have := KB.out.size
        exact World.ownsRow.alloc (World.ownsRow_lit wS #[.int .i64 (s : Int)] 1 (by omega) (by simp [maxLen]) rfl) _
      have KG : Hid (Grid ((wS.alloc (Obj.cells #[.int .i64 (s : Int)] 2)).alloc (Obj.cells #[] 43)) (wS.heap.size + 1) (wS.heap.size + 2) (.slice (some ⟨wS.heap.size + 1, 0, none⟩) 0 0) []) := by
        have := Grid.lit (base := wS.heap.size + 1) (wS.alloc (Obj.cells #[.int .i64 (s : Int)] 2)) (wS.heap.size + 2) (by simp)
        show Grid _ _ _ _ _
        simpa using this
      obtain ⟨w0, hw0⟩ : ∃ w0, (wS.alloc (Obj.cells #[.int .i64 (s : Int)] 2)).alloc (Obj.cells #[] 43) = w0 := ⟨_, rfl⟩
      have hbw0 : Below wS.heap.size wS w0 := by rw [← hw0]; exact (by repeat' (first | exact Below.refl _ _ | (with_reducible assumption) | (with_reducible refine Below.alloc ?_ ?_ _) | (with_reducible refine Below.setCell ?_ ?_ _) | (with_reducible refine Below.drew ?_) | (with_reducible refine below_drewN ?_ _) | (refine Below.trans ?_ (Below.mono (by assumption) ?_)) | (with_reducible exact Nat.le_refl _) | (with_reducible assumption) | (exact Below.size (by assumption)) | omega | go_size | (simp at *; omega)))
      have hz00 : w0.heap.size = wS.heap.size + 2 := by rw [← hw0]; simp
      have hz01 : wS.heap.size + 2 ≤ w0.heap.size := by omega
      have hzS1 : go < wS.heap.size := by have := hzS.out; omega
      have hzS2 : w.heap.size ≤ wS.heap.size := by have := hzS.out; omega
      clear hz00
      have KO0 : Hid (w0.ownsRow w.heap.size 2 1 (.slice (some ⟨go, 0, none⟩) k cO) k (ints ((List.replicate k (-1)).set s 0))) := own_below KO.out hbw0
      have KB0 : Hid (Below w.heap.size w w0) := bchain KB.out hbw0
      go_wp2
      rw [hw0] at KQ KG
      try rw [hw0]
      clear KO KB hbw0 hw0
      have M1 : Hid (∀ (wr : World), Below (wS.heap.size + 1) w0 wr → wr.ownsRow w.heap.size 2 1 (.slice (some ⟨go, 0, none⟩) k cO) k (ints ((List.replicate k (-1)).set s 0)) ∧ wr.ownsRow w.heap.size 2 1 (.slice (some ⟨wS.heap.size, 0, none⟩) 1 1) ([(s : Int)] : List Int).length (ints [(s : Int)]) ∧ Below w.heap.size w wr ∧ w0.heap.size ≤ wr.heap.size) := by
        refine hid fun wr hb => ⟨own_low KO0.out hb (fun g hg => ?_), own_low KQ.out hb (fun g hg => ?_), KB0.out.trans (hb.mono (by omega)), hb.size⟩
        · have e : go = g := by simpa [Value.ownBlock] using hg
          omega
        · have e : wS.heap.size = g := by simpa [Value.ownBlock] using hg
          omega
      go_loopw [10, 11] (fun v i wx => Hid (∃ j : Nat, j ≤ k ∧ i = .int .i64 j ∧ Grid wx (wS.heap.size + 1) wx.heap.size v (List.replicate j []) ∧ Below (wS.heap.size + 1) w0 wx)) (fun _ i _ => k - (intOf i).toNat)
      case atStart => exact hid ⟨0, Nat.zero_le _, rfl, KG.out.size, Below.refl _ _⟩
      case round =>
        clear KQ KG KO0 KB0
        obtain ⟨wi, hwi⟩ : ∃ wi, wi = wr := ⟨_, rfl⟩
        subst hwi
        obtain ⟨j, hj, rfl, hG, hbj⟩ := hrel.out
        clear hrel
        have hzj := hbj.size
        have hjl : (List.replicate j ([] : List Int)).length ≤ 1024 := by simp; omega
        by_cases hjk : j < k
        · have hjk2 : (j : Int) < (k : Int) := by omega
          have hE : wi.heap.size ≤ wi.heap.size := Nat.le_refl _
          have hG' := hid (hG.below ((Below.refl wi.heap.size wi).alloc (Nat.le_refl _) (Obj.cells #[] 2)))
          have hU : Hid ((wi.alloc (Obj.cells #[] 2)).ownsRow (wS.heap.size + 1) 2 1 (.slice (some ⟨wi.heap.size, 0, none⟩) 0 0) ([] : List Int).length (ints [])) := World.ownsRow_lit wi #[] 0 (by omega) (by simp [maxLen]) rfl
          have hub : ∀ g, (Value.slice (some ⟨wi.heap.size, 0, none⟩) 0 0).ownBlock = some g → wi.heap.size ≤ g := fun g hg => by
            have e : wi.heap.size = g := by simpa [Value.ownBlock] using hg
            omega
          have hB1 : Below (wS.heap.size + 1) w0 (wi.alloc (Obj.cells #[] 2)) := hbj.alloc (by omega) _
          clear hG
          go_wp2_with (at_builtin; refine push_rowH hG'.out hU.out hub (by simp) _ Try.underlying24 inf_row rfl _ _ rfl rfl rfl (by simp) (by omega) (by simp; omega) ?_; intro v2 w2 hG2 hb2 hg2)
          go_roundw
          case rel => exact hid ⟨j + 1, by omega, by go_num, by rw [← rep_snocL]; exact (hG2.up hb2.size), hB1.trans hb2⟩
          case measure => simp [intOf]; omega
        · obtain rfl : j = k := by omega
          have hjk2 : ¬ (j : Int) < (j : Int) := by omega
          have HGD := hid hG.apart
          obtain ⟨A9, c9, rfl⟩ := hG.form
          rw [List.length_replicate] at HGD
          have HST := hid (RowsP.start j ar)
          have HBJ := hid hbj
          clear hG hjl hbj
          go_wp2
          go_loopw [12] (fun i wx => Hid (∃ (q : Nat) (rows : List (List Int)), q ≤ m ∧ i = .int .i64 q ∧ RowsP j ar rows q ∧ GridD wx (wS.heap.size + 1) (.slice A9 j c9) rows ∧ Below (wS.heap.size + 1) w0 wx)) (fun i _ => m - (intOf i).toNat)
          case atStart => exact hid ⟨0, _, Nat.zero_le _, rfl, HST.out, (by have := HGD.out; exact this), HBJ.out⟩
          case round =>
            clear HST HGD HBJ hjk2
            obtain ⟨wi2, hwi2⟩ : ∃ wi2, wi2 = wr := ⟨_, rfl⟩
            subst hwi2
            obtain ⟨q, rows, hq, rfl, hRP, hGD, hbq⟩ := hrel.out
            clear hrel
            have hzq := hbq.size
            obtain ⟨mo, mq, mB, mz⟩ := M1.out wi2 hbq
            by_cases hqm : q < m
            · have hqm2 : (q : Int) < (m : Int) := by omega
              obtain ⟨bA, offA, ⟨x1, x2, x3⟩, hA2, hbA, hx, c0, c1, c2'⟩ := (HR2.out.below mB (Nat.le_refl _)).arc_at hqm
              obtain ⟨a, b', ea, eb, ha, hb'⟩ := HIN.out _ (List.mem_of_getElem? hx)
              simp only at ea eb c0 c1 c2'
              subst ea eb
              obtain ⟨r, hrow⟩ : ∃ r, rows[a]? = some r := ⟨_, List.getElem?_eq_getElem (by have := hRP.1; omega)⟩
              have hRP2 := hid (hRP.push HIN.out hx hrow)
              have hrl2 : r.length ≤ 100000 := by have := row_le_tot hrow; have := hRP.2.2; omega
              obtain ⟨b, Ai, ci, rfl, hbb, hbl, hjr, hcell, hown, hput⟩ := hGD.grow hrow
              have HAP := hid (fun (w8 w9 : World) (v' : Value) (b8 : Below wi2.heap.size wi2 w8) (hg : w8.grownBy w9 (Value.slice Ai r.length ci).ownBlock) (hsm : SameOr (.slice Ai r.length ci) v' w8.heap.size) (hb9 : Below (wS.heap.size + 1) w8 w9) (ho : w9.ownsRow (wS.heap.size + 1) 2 1 v' (r.length + 1) (ints r ++ #[.int .i64 (b' : Int)].toList)) => show ∃ A' c', v' = .slice A' (r.length + 1) c' ∧ w9.cell? ⟨b, a, none⟩ = some (.slice Ai r.length ci) ∧ w9.frozen? ⟨b, a, none⟩ = false ∧ w9.cell? ⟨bA, offA + q * 3, none⟩ = some (.int .i64 (a : Int)) ∧ Hid (GridD (w9.setCell ⟨b, a, none⟩ (.slice A' (r.length + 1) c')) (wS.heap.size + 1) (.slice (some ⟨b, 0, none⟩) j c9) (rows.set a (r ++ [(b' : Int)])) ∧ Below (wS.heap.size + 1) w0 (w9.setCell ⟨b, a, none⟩ (.slice A' (r.length + 1) c'))) from by
                have hl : (r ++ [(b' : Int)]).length = r.length + 1 := by simp
                have ho' : w9.ownsRow (wS.heap.size + 1) 2 1 v' (r ++ [(b' : Int)]).length (ints (r ++ [(b' : Int)])) := by rw [← ints_snoc, hl]; exact ho
                obtain ⟨A', c', rfl⟩ := own_form ho'
                have hgg : wi2.grownBy w9 (Value.slice Ai r.length ci).ownBlock := grown_trans ⟨b8.os, b8.tape, b8.output, b8.size, fun k hk _ => b8.block k hk⟩ hg
                have hs' : SameOr (.slice Ai r.length ci) (.slice A' (r ++ [(b' : Int)]).length c') wi2.heap.size := by
                  rcases hsm with e | ⟨g, e, h⟩
                  · exact .inl e
                  · exact .inr ⟨g, e, Nat.le_trans b8.size h⟩
                obtain ⟨p1, p2, p3⟩ := hput w9 A' (r ++ [(b' : Int)]) c' hgg hs' ho'
                rw [hl] at p3
                refine ⟨A', c', by rw [hl], p1, p2, ?_, hid ⟨p3, Below.setCell (hbq.trans ((b8.mono (by omega)).trans hb9)) (by show wS.heap.size + 1 ≤ b; omega) _⟩⟩
                have hzw := mB.size
                exact (hb9.cell (p := ⟨bA, offA + q * 3, none⟩) (by show bA < wS.heap.size + 1; omega)).trans ((b8.cell (p := ⟨bA, offA + q * 3, none⟩) (by show bA < wi2.heap.size; omega)).trans c0))
              have HOW := hid hown
              have hbA2 : bA < wi2.heap.size := by have := mB.size; omega
              subst hA2
              have haj : (a : Int) < (j : Int) := by omega
              clear hGD hRP hput hown mo mq mB hx c1 hjr
              go_wp2
              go_region_law (refine step_push_own2 (base := wS.heap.size + 1) (sz := 1) (e := 2) (n := r.length) (xs := ints r) (by first | exact HOW.out.alloc _ | exact own_drewA (HOW.out.alloc _) | exact (own_drewA HOW.out).alloc _ | exact own_drewA ((own_drewA HOW.out).alloc _)) wi2.heap.size #[.int .i64 (b' : Int)] (cell1 (by first | (simp; done) | (rw [World.cell?_drewN]; rw [World.cell?_alloc_at _ _ _ _ (by first | rfl | simp)]; first | done | rfl) | (show (World.alloc _ _).cell? _ = _; rw [World.cell?_alloc_at _ _ _ _ (by first | rfl | simp)]; first | done | rfl))) rfl (by intro u hu; simp at hu; subst hu; rfl) Try.underlying43 inf_int rfl (by omega) rfl _ _ rfl rfl rfl (by omega) (by omega) (by first | (simp; omega) | (simp [World.drewN]; omega)) ?_; intro v9 w9 ho9 hb9 hg9 hs9; obtain ⟨A7, c7, rfl, f1, f2, f3, f4⟩ := HAP.out _ w9 v9 (by first | exact (Below.refl _ _).alloc (Nat.le_refl _) _ | exact (by repeat' (first | exact Below.refl _ _ | (with_reducible assumption) | (with_reducible refine Below.alloc ?_ ?_ _) | (with_reducible refine Below.setCell ?_ ?_ _) | (with_reducible refine Below.drew ?_) | (with_reducible refine below_drewN ?_ _) | (refine Below.trans ?_ (Below.mono (by assumption) ?_)) | (with_reducible exact Nat.le_refl _) | (with_reducible assumption) | (exact Below.size (by assumption)) | omega | go_size | (simp at *; omega)))) hg9 hs9 hb9 ho9; clear hb9 hg9 ho9 hs9)
              all_goals
                clear HAP f1 f2 f3 c0 c2' hcell
                go_simp
                go_wp2
                go_roundw
                case rel => exact hid ⟨q + 1, _, by omega, by go_num, hRP2.out, f4.out.1, f4.out.2⟩
                case measure => simp [intOf]; omega
            · obtain rfl : q = m := by omega
              have hqm2 : ¬ (q : Int) < (q : Int) := by omega
              have HRP := hid hRP
              have HRO := hid (hRP.all (by have := HL2.out; omega))
              have hz2 := mB.size
              have HFM : Hid (FarM w.heap.size go cO (wS.heap.size + 1) wi2.heap.size j A9 (.slice (some ⟨wS.heap.size, 0, none⟩) 1 1) ((List.replicate j (-1)).set s 0) [(s : Int)] rows wi2) := by
                refine hid ⟨mo, mq, fun g hg => ?_, hGD.rdH, by omega, Nat.le_refl _⟩
                have e : wS.heap.size = g := by simpa [Value.ownBlock] using hg
                omega
              have HMB := hid mB
              clear hGD hRP hbq mo mq mB M1 HR2 HL2
              go_wp2
              go_loopw [9, 13] (fun v i wx => Hid (∃ (k : Nat) (outL qs : List Int), i = .int .i64 k ∧ k ≤ qs.length ∧ Bfs j s rows outL qs k 0 ∧ FarM w.heap.size go cO (wS.heap.size + 1) wi2.heap.size j A9 v outL qs rows wx ∧ Below w.heap.size w wx)) (fun _ i _ => 1025 - (intOf i).toNat)
              case atStart => exact hid ⟨0, _, _, rfl, by simp, Bfs.init rows hs, HFM.out, HMB.out⟩
              case round =>
                clear HFM HMB
                obtain ⟨k, outL, qs, rfl, hk, hB, hFM, hbk⟩ := hrel.out
                clear hrel
                have hqn := hB.bd
                obtain ⟨wk, hwk⟩ : ∃ wk, wk = wr := ⟨_, rfl⟩
                subst hwk
                by_cases hkq : k < qs.length
                · have hkq2 : (k : Int) < (qs.length : Int) := by omega
                  obtain ⟨x, hx⟩ : ∃ x, qs[k]? = some x := ⟨_, List.getElem?_eq_getElem hkq⟩
                  obtain ⟨x0, d0, hd0, _, _⟩ := hB.qok k x hx
                  obtain ⟨X, rfl⟩ := Int.eq_ofNat_of_zero_le x0
                  rw [Int.toNat_natCast] at hd0
                  have hXn : X < j := by have := (List.getElem?_eq_some_iff.1 hd0).1; have := hB.len; omega
                  obtain ⟨gq, cq, rfl, hgq, hgl2⟩ := own_block hFM.2.1 (by omega)
                  have hcq := hFM.2.1.cellAt k (by omega)
                  rw [ints, List.getElem?_map, hx] at hcq
                  replace hcq : wk.cell? ⟨gq, k, none⟩ = some (.int .i64 (X : Int)) := hcq
                  obtain ⟨r, hrow⟩ : ∃ r, rows[X]? = some r := ⟨_, List.getElem?_eq_getElem (by have := HRP.out.1; omega)⟩
                  have hrl2 : r.length ≤ 100000 := by have := row_le_tot hrow; have := HRP.out.2.2; omega
                  have HB := hid hB
                  have HFM := hid hFM
                  have HX := hid hx
                  clear hd0 hB hFM hx x0
                  go_wp2
                  clear hcq
                  go_loopw [9, 15] (fun v i wx => Hid (∃ (t : Nat) (outL qs : List Int), i = .int .i64 t ∧ t ≤ r.length ∧ k < qs.length ∧ qs[k]? = some (X : Int) ∧ Bfs j s rows outL qs k t ∧ FarM w.heap.size go cO (wS.heap.size + 1) wi2.heap.size j A9 v outL qs rows wx ∧ Below w.heap.size w wx)) (fun _ i _ => r.length - (intOf i).toNat)
                  case atStart => exact hid ⟨0, outL, qs, rfl, Nat.zero_le _, hkq, HX.out, HB.out, HFM.out, hbk⟩
                  case round =>
                    clear HB HFM HX hqn hkq2 hkq hbk hgl2 hgq
                    clear hk
                    obtain ⟨t, outL, qs, rfl, ht, hkq, hx, hB, hFM, hbk⟩ := hrel.out
                    clear hrel
                    have hqn := hB.bd
                    obtain ⟨bG, offG, eG, hG1, hG2, hGc⟩ := hFM.2.2.2.1.2 (by omega)
                    obtain ⟨Ar, cr, hcr, hRr⟩ := hGc X r hrow
                    subst eG
                    have hz5 := hFM.2.2.2.2.2
                    by_cases htr : t < r.length
                    · have htr2 : (t : Int) < (r.length : Int) := by omega
                      obtain ⟨bR, offR, rfl, hR1, hR2, hRc⟩ := hRr.2 (by omega)
                      obtain ⟨v0, hv0⟩ : ∃ v0, r[t]? = some v0 := ⟨_, List.getElem?_eq_getElem htr⟩
                      obtain ⟨V, rfl, hV⟩ := HRP.out.place HIN.out hrow (List.mem_of_getElem? hv0)
                      have hcR := hRc t (.int .i64 (V : Int)) (by rw [ints, List.getElem?_map, hv0]; rfl)
                      have hcO := hFM.1.cellAt V (by omega)
                      have hfO := hFM.1.frozenAt V
                      obtain ⟨e, he⟩ : ∃ e, outL[V]? = some e := ⟨_, List.getElem?_eq_getElem (by have := hB.len; omega)⟩
                      rw [ints, List.getElem?_map, he] at hcO
                      replace hcO : wr.cell? ⟨go, V, none⟩ = some (.int .i64 e) := hcO
                      have hgo2 := hFM.2.2.2.2.1
                      by_cases he0 : e < 0
                      · obtain ⟨_, d, hd, d0, dk⟩ := hB.qok k X hx
                        rw [Int.toNat_natCast] at hd
                        have hcX := hFM.1.cellAt X (by omega)
                        rw [ints, List.getElem?_map, hd] at hcX
                        replace hcX : wr.cell? ⟨go, X, none⟩ = some (.int .i64 d) := hcX
                        have HB2 := hid (hB.add hx hrow hv0 (by omega) he he0 hd)
                        have HF2 := hid (hFM.set V (d + 1))
                        obtain ⟨Aq, cq2, rfl⟩ := own_form hFM.2.1
                        have hbk2 : Below w.heap.size w (wr.setCell ⟨go, V, none⟩ (.int .i64 (d + 1))) := Below.setCell hbk (by show w.heap.size ≤ go; omega) _
                        have hgz : go < wr.heap.size := by omega
                        clear hGc hRr hRc hB hFM hd he hv0
                        go_wp2_with (at_builtin; refine push_int2H HF2.out.2.1 (V : Int) _ Try.underlying43 inf_int rfl rfl _ _ rfl rfl rfl (by simp) (by omega) (by simp; omega) ?_; intro v2 w2 ho2 hb2 hg2 hs2')
                        have HF3 := hid (HF2.out.push ho2 hg2 hs2')
                        go_roundw
                        case rel => exact hid ⟨t + 1, _, _, by go_num, by omega, by rw [List.length_append]; omega, by rw [List.getElem?_append_left hkq]; exact hx, HB2.out, HF3.out, hbk2.trans hb2⟩
                        case measure => simp [intOf]; omega
                      · have HB2 := hid (hB.skip hx hrow hv0 he (by omega))
                        have HF2 := hid hFM
                        obtain ⟨Aq, cq2, rfl⟩ := own_form hFM.2.1
                        clear hGc hRr hRc hB hFM he hv0
                        go_wp2
                        go_roundw
                        case rel => exact hid ⟨t + 1, _, _, by go_num, by omega, hkq, hx, HB2.out, HF2.out, hbk⟩
                        case measure => simp [intOf]; omega
                    · have htr2 : ¬ (t : Int) < (r.length : Int) := by omega
                      have HB2 := hid (hB.next hx hrow (by omega))
                      have HF2 := hid hFM
                      obtain ⟨Aq, cq2, rfl⟩ := own_form hFM.2.1
                      clear hGc hRr hB hFM
                      go_wp2
                      go_roundw
                      case rel => exact hid ⟨k + 1, _, _, by go_num, by omega, HB2.out, HF2.out, hbk⟩
                      case measure => simp [intOf]; omega
                · have hkq2 : ¬ (k : Int) < (qs.length : Int) := by omega
                  have HF := hid (hB.far (by omega) HRO.out)
                  have HO := hid hFM.1
                  have HL := hid hB.len
                  obtain ⟨Aq, cq2, rfl⟩ := own_form hFM.2.1
                  clear hB hFM
                  go_wp2
                  go_ret
                  first
                    | exact ⟨_, rfl, outL, by rw [HL.out]; exact HO.out, HF.out, hbk⟩
                    | exact ⟨_, outL, rfl, by rw [HL.out]; exact HO.out, HF.out, hbk⟩
end Go.Proofs.Ytlbhfjbbkkkldaa
