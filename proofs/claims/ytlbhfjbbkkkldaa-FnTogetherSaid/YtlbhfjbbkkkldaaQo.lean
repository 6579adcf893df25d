/- Contract of l06Bent. -/
import Derived.Test.YtlbhfjbbkkkldaaQn
import Derived.Test.YtlbhfjbbkkkldaaCo
namespace Go.Proofs.Ytlbhfjbbkkkldaa
open Go.RowKit
set_option linter.unusedVariables false

def three : Nat → List PT
  | 0 => []
  | k + 1 => three k ++ [(3, true)]
theorem three_len : ∀ k, (three k).length = k
  | 0 => rfl
  | k + 1 => by rw [three, List.length_append, three_len k]; rfl
theorem three_step (k : Nat) : ths (three k) ++ #[Value.int .i64 3, Value.bool true].toList = ths (three (k + 1)) := by
  rw [three, ths, ths, List.flatMap_append]; rfl
/-- Rows of k and of l throws, apart from each other, in the box gm. -/
def PnX (w0 : World) (g : Nat) (A : Option Addr) (n c : Nat) (xs : List Int) (K gm : Nat) (A' : Option Addr) (k c' : Nat) (B' : Option Addr) (l d' : Nat) (w : World) : Prop :=
  Src w g A n c xs K ∧ w0.grownBy w (some g) ∧ Bx w w0.heap.size 35 #[.slice none 0 0, .slice none 0 0] ∧ Bx w gm 35 #[.slice A' k c', .slice B' l d'] ∧ w.ownsRow (w0.heap.size + 1) 94 2 (.slice A' k c') k (ths (three k)) ∧ w.ownsRow (w0.heap.size + 1) 94 2 (.slice B' l d') l (ths (three l)) ∧ ∀ g, (Value.slice A' k c').ownBlock = some g → (Value.slice B' l d').ownBlock = some g → False
section
variable {w0 w w5 : World} {g n c K gm k l c' d' : Nat} {A A' B' : Option Addr} {xs : List Int} {v5 : Value}
theorem PnX.ask (h : PnX w0 g A n c xs K gm A' k c' B' l d' w) (hgl : g < w0.heap.size) (hgm : w0.heap.size < gm) {K' : Nat} (hs : Src w5 g A n c xs K') (hg : w.grownBy w5 (some g)) : PnX w0 g A n c xs K' gm A' k c' B' l d' w5 := by
  obtain ⟨h1, h2, h3, h4, h5, h6, h7⟩ := h
  exact ⟨hs, grown_trans h2 hg, h3.grown hg (by intro e; injection e with e; omega), h4.grown hg (by intro e; injection e with e; omega), own_askP h5 h1 hg, own_askP h6 h1 hg, h7⟩
theorem PnX.pushA (h : PnX w0 g A n c xs K gm A' k c' B' l d' w) (hgl : g < w0.heap.size) (hgm : w0.heap.size < gm) (ho : w5.ownsRow (w0.heap.size + 1) 94 2 v5 (k + 1) (ths (three k) ++ #[Value.int .i64 3, Value.bool true].toList)) (hb : Below (w0.heap.size + 1) w w5) (hg : w.grownBy w5 (Value.slice A' k c').ownBlock) (hs : SameOr (Value.slice A' k c') v5 w.heap.size) :
    ∃ A5 c5, v5 = .slice A5 (k + 1) c5 ∧ Bx w5 gm 35 #[.slice A' k c', .slice B' l d'] ∧ PnX w0 g A n c xs K gm A5 (k + 1) c5 B' l d' (w5.setCell ⟨gm, 0, none⟩ (.slice A5 (k + 1) c5)) := by
  obtain ⟨h1, h2, h3, h4, h5, h6, h7⟩ := h
  rw [three_step] at ho
  obtain ⟨A5, c5, rfl⟩ := own_form ho
  have x3 := h3.grown hg (fun e => own_bne h5 h3 (by decide) e.symm)
  have x4 := h4.grown hg (fun e => own_bne h5 h4 (by decide) e.symm)
  have o6 := h6.kept hg (by
    cases hv : (Value.slice B' l d').ownBlock with
    | none => exact .inl rfl
    | some q => exact .inr fun e => h7 q e.symm hv)
  have hb2 : Below w0.heap.size w (w5.setCell ⟨gm, 0, none⟩ (.slice A5 (k + 1) c5)) := Below.setCell (hb.mono (Nat.le_succ _)) (by show w0.heap.size ≤ gm; omega) _
  refine ⟨A5, c5, rfl, x4, h1.below hb2 hgl, grown_bl h2 hb2 (Nat.le_refl _), x3.far (by show w0.heap.size ≠ gm; omega) _, x4.set_ 0 _, ho.kept (grown_set w5 gm 0 _) (.inr (own_bne ho x4 (by decide))), o6.kept (grown_set w5 gm 0 _) (.inr (own_bne o6 x4 (by decide))), ?_⟩
  intro q e1 e2
  rcases hs with e | ⟨q2, e, hq⟩
  · rw [e] at e1; exact h7 q e1 e2
  · rw [e] at e1
    injection e1 with e1
    have := (h6.lt q e2).2
    omega
theorem PnX.pushB (h : PnX w0 g A n c xs K gm A' k c' B' l d' w) (hgl : g < w0.heap.size) (hgm : w0.heap.size < gm) (ho : w5.ownsRow (w0.heap.size + 1) 94 2 v5 (l + 1) (ths (three l) ++ #[Value.int .i64 3, Value.bool true].toList)) (hb : Below (w0.heap.size + 1) w w5) (hg : w.grownBy w5 (Value.slice B' l d').ownBlock) (hs : SameOr (Value.slice B' l d') v5 w.heap.size) :
    ∃ B5 d5, v5 = .slice B5 (l + 1) d5 ∧ Bx w5 gm 35 #[.slice A' k c', .slice B' l d'] ∧ PnX w0 g A n c xs K gm A' k c' B5 (l + 1) d5 (w5.setCell ⟨gm, 1, none⟩ (.slice B5 (l + 1) d5)) := by
  obtain ⟨h1, h2, h3, h4, h5, h6, h7⟩ := h
  rw [three_step] at ho
  obtain ⟨B5, d5, rfl⟩ := own_form ho
  have x3 := h3.grown hg (fun e => own_bne h6 h3 (by decide) e.symm)
  have x4 := h4.grown hg (fun e => own_bne h6 h4 (by decide) e.symm)
  have o5 := h5.kept hg (by
    cases hv : (Value.slice A' k c').ownBlock with
    | none => exact .inl rfl
    | some q => exact .inr fun e => h7 q hv e.symm)
  have hb2 : Below w0.heap.size w (w5.setCell ⟨gm, 1, none⟩ (.slice B5 (l + 1) d5)) := Below.setCell (hb.mono (Nat.le_succ _)) (by show w0.heap.size ≤ gm; omega) _
  refine ⟨B5, d5, rfl, x4, h1.below hb2 hgl, grown_bl h2 hb2 (Nat.le_refl _), x3.far (by show w0.heap.size ≠ gm; omega) _, x4.set_ 1 _, o5.kept (grown_set w5 gm 1 _) (.inr (own_bne o5 x4 (by decide))), ho.kept (grown_set w5 gm 1 _) (.inr (own_bne ho x4 (by decide))), ?_⟩
  intro q e1 e2
  rcases hs with e | ⟨q2, e, hq⟩
  · rw [e] at e2; exact h7 q e1 e2
  · rw [e] at e2
    injection e2 with e2
    have := (h5.lt q e1).2
    omega
theorem PnX.pe (h : PnX w0 g A n c xs K gm A' k c' B' l d' w) (hk : k ≤ 9) (hl : l ≤ 9) : PnE w0 g A n c xs K gm A' k c' B' l d' w := by
  obtain ⟨h1, h2, h3, h4, h5, h6, h7⟩ := h
  exact ⟨h1, h2, h3, h4, (three k, three l), RdP.of_own h5, RdP.of_own h6, hk, hl⟩
theorem PnG.wipe {N gA cA gB cB : Nat} (h : PnG w0 g A n c xs K gm N gA cA gB cB w) (hgl : g < w0.heap.size) (hgm : w0.heap.size < gm) : PnX w0 g A n c xs K gm none 0 0 none 0 0 ((w.setCell ⟨gm, 0, none⟩ (.slice none 0 0)).setCell ⟨gm, 1, none⟩ (.slice none 0 0)) := by
  obtain ⟨h1, h2, h3, h4, h5⟩ := h
  have hb : Below w0.heap.size w ((w.setCell ⟨gm, 0, none⟩ (.slice none 0 0)).setCell ⟨gm, 1, none⟩ (.slice none 0 0)) := Below.setCell (Below.setCell (Below.refl _ _) (by show w0.heap.size ≤ gm; omega) _) (by show w0.heap.size ≤ gm; omega) _
  exact ⟨h1.below hb hgl, grown_bl h2 hb (Nat.le_refl _), (h3.far (p := ⟨gm, 0, none⟩) (by show w0.heap.size ≠ gm; omega) _).far (p := ⟨gm, 1, none⟩) (by show w0.heap.size ≠ gm; omega) _, (h4.set_ 0 _).set_ 1 _, World.ownsRow_nil _ _ _ _, World.ownsRow_nil _ _ _ _, fun q e => by simp [Value.ownBlock] at e⟩
theorem PnE.drew {m' n' : Nat} (h : PnE w0 g A n c xs K gm A' n' c' B' m' d' w) : PnE w0 g A n c xs K gm A' n' c' B' m' d' w.drew := by
  obtain ⟨h1, h2, h3, h4, h5⟩ := h
  exact ⟨h1.below (B := w.heap.size) ((Below.refl _ _).drew) h1.lt, grown_trans h2 (grown_drew w _), h3, h4, h5⟩
end
theorem pt_one : ∀ u ∈ #[Value.int .i64 3, Value.bool true].toList, u.oneCell' = true := by
  intro u hu
  simp at hu
  rcases hu with rfl | rfl <;> rfl
set_option maxRecDepth 100000 in
set_option maxHeartbeats 8000000 in
theorem l06Bent_src (g : Nat) (A : Option Addr) (n c K : Nat) (xs : List Int) (w : World) (hK : K ≤ 1000) (h : Src w g A n c xs K) :
    Calls Try.prog 81 #[.pointer (some ⟨g, 0, none⟩)] w fun e w' => PeRow w.heap.size w' e ∧ Src w' g A n c xs (K + 200) ∧ w.grownBy w' (some g) := by
  have hgl := h.lt
  have hB0 : Below w.heap.size w (w.alloc (Obj.cells #[.slice none 0 0, .slice none 0 0] 35)) := (by repeat' (first | exact Below.refl _ _ | (with_reducible assumption) | (with_reducible refine Below.alloc ?_ ?_ _) | (with_reducible refine Below.setCell ?_ ?_ _) | (with_reducible refine Below.drew ?_) | (with_reducible refine below_drewN ?_ _) | (refine Below.trans ?_ (Below.mono (by assumption) ?_)) | (with_reducible exact Nat.le_refl _) | (with_reducible assumption) | (exact Below.size (by assumption)) | omega | go_size | (simp at *; omega)))
  have hs0 := h.below hB0 hgl
  have hX := Bx.new w 35 #[.slice none 0 0, .slice none 0 0]
  have hg0 : w.grownBy (w.alloc (Obj.cells #[.slice none 0 0, .slice none 0 0] 35)) (some g) := grown_bl (World.grownBy.refl w (some g)) hB0 (Nat.le_refl _)
  have hwz : (w.alloc (Obj.cells #[.slice none 0 0, .slice none 0 0] 35)).heap.size = w.heap.size + 1 := by simp
  have HS0 := hid hs0
  have HG0 := hid hg0
  have HWZ := hid hwz
  clear h hs0 hg0 hB0 hwz
  go_enter Try.func81, Try.ntmps81
  go_wp2_with fail
  refine (l06Draw_src g A n c K xs _ (by omega) HS0.out).mono ?_
  rintro e w4 ⟨⟨N, gA, cA, gB, cB, hN1, hN2, rfl, hM⟩, hs4, hg4⟩
  rw [HWZ.out] at hM
  have hgg4 := grown_trans HG0.out hg4
  have X4 := hX.grown hg4 (by intro e; injection e with e; omega)
  have hz4 := hgg4.size
  have hx4 := X4.lt
  clear HS0 HG0 hg4 hX HWZ
  obtain ⟨W, hW⟩ : ∃ W, w4.alloc (Obj.cells #[.slice (some ⟨gA, 0, none⟩) N cA, .slice (some ⟨gB, 0, none⟩) N cB] 35) = W := ⟨_, rfl⟩
  have hbW : Below w4.heap.size w4 W := by rw [← hW]; exact (by repeat' (first | exact Below.refl _ _ | (with_reducible assumption) | (with_reducible refine Below.alloc ?_ ?_ _) | (with_reducible refine Below.setCell ?_ ?_ _) | (with_reducible refine Below.drew ?_) | (with_reducible refine below_drewN ?_ _) | (refine Below.trans ?_ (Below.mono (by assumption) ?_)) | (with_reducible exact Nat.le_refl _) | (with_reducible assumption) | (exact Below.size (by assumption)) | omega | go_size | (simp at *; omega)))
  have hZ : Hid (PnG w g A n c xs (K + 130) w4.heap.size N gA cA gB cB W) :=
    ⟨hs4.below hbW (by omega), grown_bl hgg4 hbW hz4, X4.below hbW X4.lt, by rw [← hW]; exact Bx.new _ _ _, hM.below hbW⟩
  rw [← hW] at hZ
  have hg4 : w.heap.size < w4.heap.size := hx4
  clear hW hbW W hs4 hgg4 X4 hM hx4
  go_wp2_with fail
  refine (pick_src g A n c (K + 130) xs (N : Int) _ (by omega) (by omega) hZ.out.1).mono ?_
  rintro e w6 ⟨⟨a, a0, a1, rfl⟩, hs6, hg6⟩
  obtain ⟨a, rfl⟩ := Int.eq_ofNat_of_zero_le a0
  have ha : a < N := by omega
  have HB6 := hid (hZ.out.ask hgl hg4 hs6 hg6)
  clear hZ hs6 hg6 a1 a0
  go_wp2_with fail
  refine (pick_src g A n c (K + 130 + 2) xs 18 _ (by omega) (by omega) HB6.out.1).mono ?_
  rintro e w7 ⟨⟨y, y0, y1, rfl⟩, hs7, hg7⟩
  have HB := hid (HB6.out.ask hgl hg4 hs7 hg7)
  clear HB6 hs7 hg7
  have hy7 := HB.out.2.2.2.1.lt
  have hbx0 := bx_p0 HB.out.2.2.2.1
  have hbx1 := bx_p1 HB.out.2.2.2.1
  have hfx0 := HB.out.2.2.2.1.frozen 0
  have hfx1 := HB.out.2.2.2.1.frozen 1
  have hlt := HB.out.2.2.2.2.lt
  obtain ⟨⟨hA1, hA2⟩, ⟨hB1, hB2⟩⟩ := hlt
  obtain ⟨⟨qa, ra⟩, s0, s1, s2, s3⟩ := HB.out.2.2.2.2.atA ha
  obtain ⟨⟨qb, rb⟩, t0, t1, t2, t3⟩ := HB.out.2.2.2.2.atB ha
  simp only at s0 s1 t0 t1
  have ha1 : (a : Int) < (N : Int) := by omega
  go_upto_block 0 with fail
  go_cut [] (fun wx => Hid (∃ (A' : Option Addr) (n' c' : Nat) (B' : Option Addr) (m' d' : Nat) (K5 : Nat), K5 ≤ K + 200 ∧ PnE w g A n c xs K5 w4.heap.size A' n' c' B' m' d' wx))
  case first =>
    by_cases c0 : y = 0
    · subst c0
      have HAM := hid (fun (w' : World) (h1 : w'.heap = (w7.alloc (Obj.cells #[.int .i64 (-1), .int .i64 0, .int .i64 15, .int .i64 16] 2)).heap) (b1 : Below w7.heap.size w7 w') => (among_in (fun _ => True) g A n c (K + 130 + 2 + 2) xs w7.heap.size 0 4 4 w' (by omega) (by omega) (by rw [h1]; simp) (by omega) (by omega) (four_in w7 w' _ _ rfl h1) (HB.out.1.below b1 (by omega))).mono (fun e w'' h => show ∃ z : Int, e = .returned (.int .i64 z) ∧ w''.cell? ⟨w4.heap.size, 0, none⟩ = some (.slice (some ⟨gA, 0, none⟩) N cA) ∧ (∃ u, w''.cell? ⟨gA, a * 2, none⟩ = some (.int .i64 u)) ∧ w''.frozen? ⟨gA, a * 2, none⟩ = false ∧ Hid (PnG w g A n c xs (K + 130 + 2 + 2 + 2) w4.heap.size N gA cA gB cB (w''.setCell ⟨gA, a * 2, none⟩ (.int .i64 z))) ∧ w7.heap.size ≤ w''.heap.size from by
        obtain ⟨⟨z, _, rfl⟩, k2, k3⟩ := h
        have n2 := (HB.out.below b1).ask hgl hg4 k2 k3
        obtain ⟨x, v0, v1, v2, v3⟩ := n2.2.2.2.2.atA ha
        exact ⟨z, rfl, bx_p0 n2.2.2.2.1, ⟨_, v0⟩, v2, n2.pokeA0 hgl a z, Nat.le_trans b1.size k3.size⟩))
      clear HB
      go_wp2
      go_region_law (go_simp; go_wp2_with (go_at_call 120; with_reducible refine (HAM.out _ ?_ ?_).mono ?_; (first | rfl | exact drew_alloc _ _ | exact alloc_drew _ _ | exact alloc_drew2 _ _); (repeat' (first | (with_reducible exact Below.refl _ _) | (with_reducible refine Below.alloc ?_ ?_ _) | (with_reducible refine Below.drew ?_) | (with_reducible refine below_drewN ?_ _) | exact Nat.le_refl _)); rintro e w8 ⟨z, rfl, k1, ⟨u2, k2⟩, k4, k5, k6⟩))
      all_goals
        clear HAM k1 k2 k4
        go_wp2_with fail
        go_meet
        exact hid ⟨_, _, _, _, _, _, _, by omega, k5.out.same hN2⟩
    · by_cases c1 : y = 1
      · subst c1
        have HE : Hid (PnE w g A n c xs (K + 130 + 2 + 2) w4.heap.size (some ⟨gA, 0, none⟩) N cA (some ⟨gB, 0, none⟩) N cB (w7.setCell ⟨gB, a * 2 + 1, none⟩ (.bool (!rb)))) := (HB.out.pokeB1 hgl a (!rb)).same hN2
        clear HB
        go_wp2
        go_region
        go_wp2_with fail
        go_meet
        exact hid ⟨_, _, _, _, _, _, _, by omega, HE.out.drew⟩
      · by_cases c2 : y = 2
        · subst c2
          have HE : Hid (PnE w g A n c xs (K + 130 + 2 + 2) w4.heap.size (some ⟨gA, 0, none⟩) a cA (some ⟨gB, 0, none⟩) N cB (w7.setCell ⟨w4.heap.size, 0, none⟩ (.slice (some ⟨gA, 0, none⟩) a cA))) := HB.out.cut hgl hg4 hN2 (by omega)
          have hcap : N ≤ cA := by
            obtain ⟨p, q, h1, _⟩ := HB.out.2.2.2.2
            obtain ⟨_, _, e, _, h⟩ := own_form2 h1
            injection e with _ _ e
            omega
          have hac : (a : Int) ≤ (cA : Int) := by omega
          clear HB
          go_wp2_with fail
          go_meet
          exact hid ⟨_, _, _, _, _, _, _, by omega, HE.out⟩
        · by_cases c3 : y = 3
          · subst c3
            have HT := hid (HB.out.wipe hgl hg4)
            clear HB s0 s1 s2 s3 t0 t1 t2 t3
            go_wp2_with fail
            refine (pick_src g A n c (K + 130 + 2 + 2) xs 2 _ (by omega) (by omega) HT.out.1).mono ?_
            rintro e w8 ⟨⟨z, z0, z1, rfl⟩, hs8, hg8⟩
            obtain ⟨R, hR⟩ : ∃ R : Nat, 8 + z = (R : Int) := ⟨(8 + z).toNat, by omega⟩
            have hR9 : R ≤ 9 := by omega
            have HT8 := hid (HT.out.ask hgl hg4 hs8 hg8)
            clear HT hs8 hg8 hfx0 hfx1 hbx0 hbx1
            go_wp2
            clear hR z0 z1
            go_loopw [5] (fun i wr => Hid (∃ (k j : Nat) (A' : Option Addr) (c' : Nat) (B' : Option Addr) (d' : Nat), i = .int .i64 j ∧ k + j ≤ 9 ∧ PnX w g A n c xs (K + 130 + 2 + 2 + 2) w4.heap.size A' k c' B' k d' wr)) (fun i _ => (intOf i).toNat)
            case atStart => exact hid ⟨0, R, _, _, _, _, rfl, by omega, HT8.out⟩
            case round =>
              clear HT8
              obtain ⟨k, j, A5, c5, B5, d5, rfl, hkj, hP⟩ := hrel.out
              clear hrel
              have e0 := bx_p0 hP.2.2.2.1
              have e1 := bx_p1 hP.2.2.2.1
              have f0 := hP.2.2.2.1.frozen 0
              have f1 := hP.2.2.2.1.frozen 1
              have hzz := hP.2.2.2.1.lt
              have HP := hid hP
              clear hP
              by_cases hj : 0 < j
              · have hj1 : (0 : Int) < (j : Int) := by omega
                go_upto_region 16 with (at_builtin; refine push_own2 HP.out.2.2.2.2.1 #[.int .i64 3, .bool true] _ Try.underlying33 inf_pt rfl (by omega) rfl _ _ rfl rfl rfl rfl pt_one (by omega) (by omega) (by omega) ?_; intro v5 w5 ho5 hb5 hg5 hs5; obtain ⟨A6, c6, rfl, X6, P6⟩ := HP.out.pushA hgl hg4 ho5 hb5 hg5 hs5; have x60 := bx_p0 X6; have x61 := bx_p1 X6; have f60 := X6.frozen 0; have f61 := X6.frozen 1; have P6 := hid P6; clear ho5 hb5 hg5 hs5 X6)
                obtain ⟨W, hW⟩ : ∃ W, w5.setCell ⟨w4.heap.size, 0, none⟩ (.slice A6 (k + 1) c6) = W := ⟨_, rfl⟩
                rw [hW] at P6 ⊢
                clear hW x60 x61 f60 f61 e0 e1 f0 f1 HP
                have e0 := bx_p0 P6.out.2.2.2.1
                have e1 := bx_p1 P6.out.2.2.2.1
                have f0 := P6.out.2.2.2.1.frozen 0
                have f1 := P6.out.2.2.2.1.frozen 1
                have hz6 := P6.out.2.2.2.1.lt
                go_wp2_with (at_builtin; refine push_own2 P6.out.2.2.2.2.2.1 #[.int .i64 3, .bool true] _ Try.underlying33 inf_pt rfl (by omega) rfl _ _ rfl rfl rfl rfl pt_one (by omega) (by omega) (by omega) ?_; intro v7 w7 ho7 hb7 hg7 hs7; obtain ⟨B8, d8, rfl, X8, P8⟩ := P6.out.pushB hgl hg4 ho7 hb7 hg7 hs7; have x80 := bx_p0 X8; have x81 := bx_p1 X8; have f80 := X8.frozen 0; have f81 := X8.frozen 1; have P8 := hid P8; clear ho7 hb7 hg7 hs7 X8)
                go_roundw
                case rel => exact hid ⟨k + 1, j - 1, _, _, _, _, by go_num, by omega, P8.out⟩
                case measure => simp [intOf]; omega
              · have hj1 : ¬ (0 : Int) < (j : Int) := by omega
                go_wp2_with fail
                go_meet
                exact hid ⟨_, _, _, _, _, _, _, by omega, HP.out.pe (by omega) (by omega)⟩
          · have k0 : (y == 0) = false := by simpa using c0
            have k1 : (y == 1) = false := by simpa using c1
            have k2 : (y == 2) = false := by simpa using c2
            have k3 : (y == 3) = false := by simpa using c3
            have HE := hid (HB.out.same hN2)
            clear HB
            go_wp2_with fail
            go_meet
            exact hid ⟨_, _, _, _, _, _, _, by omega, HE.out⟩
  case rest =>
    clear HB hbx0 hbx1 hfx0 hfx1 s0 s1 s2 s3 t0 t1 t2 t3
    obtain ⟨A', n', c', B', m', d', K5, hK5, HE⟩ := hcut.out
    clear hcut
    have e1 := bx_p0 HE.2.2.2.1
    have e11 := bx_p1 HE.2.2.2.1
    have e2 := bx_p0 HE.2.2.1
    have e22 := bx_p1 HE.2.2.1
    have e3 := HE.2.2.1.frozen 0
    have e33 := HE.2.2.1.frozen 1
    have HF := hid (HE.fin hgl (K' := K + 200) hK5)
    clear HE
    go_wp2
    refine bodyPost_ret (v := .agg #[.slice A' n' c', .slice B' m' d']) ?_ rfl ?_
    · simp (maxDischargeDepth := 8) [results, Try.results81, go_sem, *]
    exact HF.out
end Go.Proofs.Ytlbhfjbbkkkldaa
