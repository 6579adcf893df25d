/- The contract of DrawSamePassing. -/
import Derived.Test.YtlbhfjbbkkkldaaQo
namespace Go.Proofs.Ytlbhfjbbkkkldaa
open Go.RowKit
set_option linter.unusedVariables false

theorem own_poke0 {w : World} {B n c g : Nat} {a : List PT} (h : w.ownsRow B 94 2 (.slice (some ⟨g, 0, none⟩) n c) n (ths a)) (gX i : Nat) (v : Int) : ∃ a' : List PT, (w.setCell ⟨gX, i * 2, none⟩ (.int .i64 v)).ownsRow B 94 2 (.slice (some ⟨g, 0, none⟩) n c) n (ths a') := by
  by_cases hg : g = gX
  · subst hg
    obtain ⟨h1, _⟩ := h.stored (i * 2) (.int .i64 v)
    rw [ths_set0] at h1
    exact ⟨_, h1⟩
  · exact ⟨a, h.kept (grown_set w gX (i * 2) _) (.inr (by simp [Value.ownBlock]; exact hg))⟩
theorem own_poke1 {w : World} {B n c g : Nat} {a : List PT} (h : w.ownsRow B 94 2 (.slice (some ⟨g, 0, none⟩) n c) n (ths a)) (gX i : Nat) (v : Bool) : ∃ a' : List PT, (w.setCell ⟨gX, i * 2 + 1, none⟩ (.bool v)).ownsRow B 94 2 (.slice (some ⟨g, 0, none⟩) n c) n (ths a') := by
  by_cases hg : g = gX
  · subst hg
    obtain ⟨h1, _⟩ := h.stored (i * 2 + 1) (.bool v)
    rw [ths_set1] at h1
    exact ⟨_, h1⟩
  · exact ⟨a, h.kept (grown_set w gX (i * 2 + 1) _) (.inr (by simp [Value.ownBlock]; exact hg))⟩
theorem PgAt.set0 {B N gA cA gB cB : Nat} {w : World} (h : PgAt B N w gA cA gB cB) (gX i : Nat) (v : Int) : PgAt B N (w.setCell ⟨gX, i * 2, none⟩ (.int .i64 v)) gA cA gB cB := by
  obtain ⟨a, b, h1, h2⟩ := h
  obtain ⟨a', k1⟩ := own_poke0 h1 gX i v
  obtain ⟨b', k2⟩ := own_poke0 h2 gX i v
  exact ⟨a', b', k1, k2⟩
theorem PgAt.set1 {B N gA cA gB cB : Nat} {w : World} (h : PgAt B N w gA cA gB cB) (gX i : Nat) (v : Bool) : PgAt B N (w.setCell ⟨gX, i * 2 + 1, none⟩ (.bool v)) gA cA gB cB := by
  obtain ⟨a, b, h1, h2⟩ := h
  obtain ⟨a', k1⟩ := own_poke1 h1 gX i v
  obtain ⟨b', k2⟩ := own_poke1 h2 gX i v
  exact ⟨a', b', k1, k2⟩
theorem RdP.tail {w : World} {C B n b off : Nat} {a : List PT} (h : RdP w C B (some ⟨b, off, none⟩) n (ths a)) (hn : 1 ≤ n) (A' : Option Addr) (hA : A' = some ⟨b, off + 2, none⟩ ∨ n = 1) : RdP w C B A' (n - 1) (ths (a.drop 1)) := by
  have hl : a.length = n := by have := h.1; rw [ths_len] at this; omega
  refine ⟨by rw [ths_len, List.length_drop]; omega, fun h0 => ?_⟩
  rcases hA with rfl | rfl
  · obtain ⟨b', off', e, h1, hb, hc⟩ := h.2 (by omega)
    injection e with e
    injection e with e1 e2
    subst e1 e2
    refine ⟨b, off + 2, rfl, h1, hb, fun j u hj => ?_⟩
    have := hc (2 + j) u (by
      cases a with
      | nil => simp at hl; omega
      | cons x t =>
        rw [List.drop_succ_cons, List.drop_zero] at hj
        show (thc x ++ ths t)[2 + j]? = some u
        rw [List.getElem?_append_right (by show 2 ≤ 2 + j; omega)]
        show (ths t)[2 + j - 2]? = some u
        rw [show 2 + j - 2 = j by omega]; exact hj)
    rw [show off + 2 + j = off + (2 + j) by omega]
    exact this
  · omega
/-- Two drawn patterns in the boxes ga and gb; the boxes of the results are those at the start. -/
def DsG (w0 : World) (ga gb N gA cA gB cB gC cC gD cD : Nat) (w : World) : Prop :=
  Below w0.heap.size w0 w ∧ Bx w w0.heap.size 35 #[.slice none 0 0, .slice none 0 0] ∧ Bx w (w0.heap.size + 1) 35 #[.slice none 0 0, .slice none 0 0] ∧ Bx w ga 35 #[.slice (some ⟨gA, 0, none⟩) N cA, .slice (some ⟨gB, 0, none⟩) N cB] ∧ Bx w gb 35 #[.slice (some ⟨gC, 0, none⟩) N cC, .slice (some ⟨gD, 0, none⟩) N cD] ∧ PgAt (w0.heap.size + 2) N w gA cA gB cB ∧ PgAt (w0.heap.size + 2) N w gC cC gD cD
def DsE (w0 : World) (ga gb N gA cA gB cB gC cC : Nat) (D : Option Addr) (m d : Nat) (w : World) : Prop :=
  Below w0.heap.size w0 w ∧ Bx w w0.heap.size 35 #[.slice none 0 0, .slice none 0 0] ∧ Bx w (w0.heap.size + 1) 35 #[.slice none 0 0, .slice none 0 0] ∧ Bx w ga 35 #[.slice (some ⟨gA, 0, none⟩) N cA, .slice (some ⟨gB, 0, none⟩) N cB] ∧ Bx w gb 35 #[.slice (some ⟨gC, 0, none⟩) N cC, .slice D m d] ∧ Pe (w0.heap.size + 2) w (some ⟨gA, 0, none⟩) N (some ⟨gB, 0, none⟩) N ∧ Pe (w0.heap.size + 2) w (some ⟨gC, 0, none⟩) N D m
section
variable {w0 w w' : World} {ga gb N gA cA gB cB gC cC gD cD : Nat}
theorem DsG.same (h : DsG w0 ga gb N gA cA gB cB gC cC gD cD w) (hN : N ≤ 5) : DsE w0 ga gb N gA cA gB cB gC cC (some ⟨gD, 0, none⟩) N cD w := by
  obtain ⟨h1, h2, h3, h4, h5, h6, h7⟩ := h
  exact ⟨h1, h2, h3, h4, h5, h6.pe hN, h7.pe hN⟩
theorem DsG.poke0 (h : DsG w0 ga gb N gA cA gB cB gC cC gD cD w) (i : Nat) (v : Int) : DsG w0 ga gb N gA cA gB cB gC cC gD cD (w.setCell ⟨gC, i * 2, none⟩ (.int .i64 v)) := by
  obtain ⟨h1, h2, h3, h4, h5, h6, h7⟩ := h
  have hl := h7.lt
  have e2 := h7.neb h2 (by decide)
  have e3 := h7.neb h3 (by decide)
  have e4 := h7.neb h4 (by decide)
  have e5 := h7.neb h5 (by decide)
  exact ⟨Below.setCell h1 (by show w0.heap.size ≤ gC; omega) _, h2.far (by exact e2.1) _, h3.far (by exact e3.1) _, h4.far (by exact e4.1) _, h5.far (by exact e5.1) _, h6.set0 gC i v, h7.set0 gC i v⟩
theorem DsG.poke1 (h : DsG w0 ga gb N gA cA gB cB gC cC gD cD w) (i : Nat) (v : Bool) : DsG w0 ga gb N gA cA gB cB gC cC gD cD (w.setCell ⟨gD, i * 2 + 1, none⟩ (.bool v)) := by
  obtain ⟨h1, h2, h3, h4, h5, h6, h7⟩ := h
  have hl := h7.lt
  have e2 := h7.neb h2 (by decide)
  have e3 := h7.neb h3 (by decide)
  have e4 := h7.neb h4 (by decide)
  have e5 := h7.neb h5 (by decide)
  exact ⟨Below.setCell h1 (by show w0.heap.size ≤ gD; omega) _, h2.far (by exact e2.2) _, h3.far (by exact e3.2) _, h4.far (by exact e4.2) _, h5.far (by exact e5.2) _, h6.set1 gD i v, h7.set1 gD i v⟩
theorem DsG.tail {d' : Nat} (h : DsG w0 ga gb N gA cA gB cB gC cC gD cD w) (hN : N ≤ 5) (hN1 : 1 ≤ N) (hgb : w0.heap.size + 1 < gb) (hga : ga ≠ gb) (D : Option Addr) (hD : D = some ⟨gD, 2, none⟩ ∨ N = 1) : DsE w0 ga gb N gA cA gB cB gC cC D (N - 1) d' (w.setCell ⟨gb, 1, none⟩ (.slice D (N - 1) d')) := by
  obtain ⟨h1, h2, h3, h4, h5, h6, h7⟩ := h
  have k6 := h6.setb h5 (i := 1) (.slice D (N - 1) d')
  obtain ⟨a, b, k7, k8⟩ := h7.setb h5 (i := 1) (.slice D (N - 1) d')
  refine ⟨Below.setCell h1 (by show w0.heap.size ≤ gb; omega) _, h2.far (by show w0.heap.size ≠ gb; omega) _, h3.far (by show w0.heap.size + 1 ≠ gb; omega) _, h4.far (by exact hga) _, h5.set_ 1 _, k6.pe hN, (a, b.drop 1), RdP.of_own k7, (RdP.of_own k8).tail hN1 D (by rw [Nat.zero_add]; exact hD), by omega, by omega⟩
theorem DsE.drew {D : Option Addr} {m d : Nat} (h : DsE w0 ga gb N gA cA gB cB gC cC D m d w) : DsE w0 ga gb N gA cA gB cB gC cC D m d w.drew := by
  obtain ⟨h1, h2, h3, h4, h5, h6, h7⟩ := h
  exact ⟨h1.drew, h2, h3, h4, h5, h6, h7⟩
end
def TwoPe (B : Nat) (w : World) (e : Ending) : Prop := ∃ A1 n1 c1 B1 m1 d1 A2 n2 c2 B2 m2 d2, e = .returned (.tuple #[.agg #[.slice A1 n1 c1, .slice B1 m1 d1], .agg #[.slice A2 n2 c2, .slice B2 m2 d2]]) ∧ Pe B w A1 n1 B1 m1 ∧ Pe B w A2 n2 B2 m2
set_option maxRecDepth 100000 in
set_option maxHeartbeats 4000000 in
theorem DrawSamePassing_any (A : Option Addr) (n c : Nat) (xs : List Int) (w : World) (hn : n ≤ 1099511627776) (hx : ∀ x ∈ xs, 0 ≤ x ∧ x ≤ 255) (hr : Rd w w.heap.size 1 A n (xs.map (Value.int .u8))) :
    Calls Try.prog 22 #[.slice A n c] w fun e w' => TwoPe w.heap.size w' e ∧ Below w.heap.size w w' := by
  obtain ⟨W, hW⟩ : ∃ W, (w.alloc (Obj.cells #[.slice none 0 0, .slice none 0 0] 35)).alloc (Obj.cells #[.slice none 0 0, .slice none 0 0] 35) = W := ⟨_, rfl⟩
  have hB0 : Below w.heap.size w W := by rw [← hW]; exact (by repeat' (first | exact Below.refl _ _ | (with_reducible assumption) | (with_reducible refine Below.alloc ?_ ?_ _) | (with_reducible refine Below.setCell ?_ ?_ _) | (with_reducible refine Below.drew ?_) | (with_reducible refine below_drewN ?_ _) | (refine Below.trans ?_ (Below.mono (by assumption) ?_)) | (with_reducible exact Nat.le_refl _) | (with_reducible assumption) | (exact Below.size (by assumption)) | omega | go_size | (simp at *; omega)))
  have hzz : W.heap.size = w.heap.size + 1 + 1 := by rw [← hW]; simp
  have hX : Bx W w.heap.size 35 #[.slice none 0 0, .slice none 0 0] := by rw [← hW]; exact (bx_at rfl).alloc _
  have hY : Bx W (w.heap.size + 1) 35 #[.slice none 0 0, .slice none 0 0] := by rw [← hW]; exact bx_at (by simp)
  have h0 := l00From_any A n c xs W hn hx ((hr.below hB0 (Nat.le_refl _)).more hB0.size)
  rw [hzz] at h0
  have HX := hid hX
  have HY := hid hY
  have HB := hid hB0
  rw [← hW] at h0 HX HY HB
  have h0 := hid h0
  clear hx hr hX hY hB0 hzz hW W
  go_enter Try.func22, Try.ntmps22
  go_wp2_with fail
  refine h0.out.mono ?_
  rintro e w1 ⟨rfl, hs1, hb1⟩
  have l1 := hs1.lt
  have hX1 := hid (HX.out.below hb1 (by omega))
  have hY1 := hid (HY.out.below hb1 (by omega))
  have hB1 : Below w.heap.size w w1 := HB.out.trans (hb1.mono (by omega))
  have hS := hid hs1
  clear h0 HX HY HB hs1 hb1
  go_wp2_with fail
  refine (l06Draw_src _ A n c 0 xs w1 (by omega) hS.out).mono ?_
  rintro e w2 ⟨⟨N, gA, cA, gB, cB, hN1, hN2, rfl, hM⟩, hs2, hg2⟩
  have hX2 := hX1.out.grown hg2 (fun e => by injection e with e; omega)
  have hY2 := hY1.out.grown hg2 (fun e => by injection e with e; omega)
  have hB2 : Below w.heap.size w w2 := hB1.grown hg2 hB1.size (fun g h => by injection h with h; omega)
  have hz2 := hg2.size
  have hM2 : PgAt (w.heap.size + 2) N w2 gA cA gB cB := hM.more (by omega)
  clear hg2 hX1 hY1 hB1 hS hM
  obtain ⟨W, hW⟩ : ∃ W, w2.alloc (Obj.cells #[.slice (some ⟨gA, 0, none⟩) N cA, .slice (some ⟨gB, 0, none⟩) N cB] 35) = W := ⟨_, rfl⟩
  have hbW : Below w2.heap.size w2 W := by rw [← hW]; exact (by repeat' (first | exact Below.refl _ _ | (with_reducible assumption) | (with_reducible refine Below.alloc ?_ ?_ _) | (with_reducible refine Below.setCell ?_ ?_ _) | (with_reducible refine Below.drew ?_) | (with_reducible refine below_drewN ?_ _) | (refine Below.trans ?_ (Below.mono (by assumption) ?_)) | (with_reducible exact Nat.le_refl _) | (with_reducible assumption) | (exact Below.size (by assumption)) | omega | go_size | (simp at *; omega)))
  have hP : Bx W w2.heap.size 35 #[.slice (some ⟨gA, 0, none⟩) N cA, .slice (some ⟨gB, 0, none⟩) N cB] := by rw [← hW]; exact Bx.new _ _ _
  have hMW := hM2.below hbW
  obtain ⟨pa, pb, ho1, ho2⟩ := hMW
  have hC := l06Own_any w2.heap.size (some ⟨gA, 0, none⟩) (some ⟨gB, 0, none⟩) N cA N cB (pa, pb) W hN1 hN1 (by omega) (by omega) hP (Rd.of_own ho1) (Rd.of_own ho2)
  have HO : Hid (PgAt (w.heap.size + 2) N W gA cA gB cB) := ⟨pa, pb, ho1, ho2⟩
  have HX2 := hid (hX2.below hbW hX2.lt)
  have HY2 := hid (hY2.below hbW hY2.lt)
  have HP := hid hP
  have HB2 := hid (bchain hB2 hbW)
  have HS2 := hid (hs2.below hbW (by omega))
  have hWl : w2.heap.size < W.heap.size := hP.lt
  have HWL := hid hWl
  rw [← hW] at hC HO HX2 HY2 HP HB2 HS2 HWL
  have hC := hid hC
  have hw2 : w.heap.size + 1 < w2.heap.size := hY2.lt
  clear hW hbW hP ho1 ho2 hX2 hY2 hB2 hs2 hM2 W hWl
  go_wp2_with fail
  refine hC.out.mono ?_
  rintro e w3 ⟨⟨gC, cC, gD, cD, rfl, hq1, hq2⟩, hb3⟩
  have hX3 := HX2.out.below hb3 HX2.out.lt
  have hY3 := HY2.out.below hb3 HY2.out.lt
  have hP3 := HP.out.below hb3 HP.out.lt
  have hB3 := bchain HB2.out hb3
  have hM3 := HO.out.below hb3
  have hs3 := HS2.out.below hb3 (by have := HWL.out; omega)
  have hw3 : w2.heap.size < w3.heap.size := hP3.lt
  have hQ3 : PgAt (w.heap.size + 2) N w3 gC cC gD cD := ⟨_, _, own_more hq1 (by have := HWL.out; omega), own_more hq2 (by have := HWL.out; omega)⟩
  clear hC HO HX2 HY2 HP HB2 HS2 HWL hb3 hq1 hq2
  obtain ⟨W, hW⟩ : ∃ W, w3.alloc (Obj.cells #[.slice (some ⟨gC, 0, none⟩) N cC, .slice (some ⟨gD, 0, none⟩) N cD] 35) = W := ⟨_, rfl⟩
  have hbW : Below w3.heap.size w3 W := by rw [← hW]; exact (by repeat' (first | exact Below.refl _ _ | (with_reducible assumption) | (with_reducible refine Below.alloc ?_ ?_ _) | (with_reducible refine Below.setCell ?_ ?_ _) | (with_reducible refine Below.drew ?_) | (with_reducible refine below_drewN ?_ _) | (refine Below.trans ?_ (Below.mono (by assumption) ?_)) | (with_reducible exact Nat.le_refl _) | (with_reducible assumption) | (exact Below.size (by assumption)) | omega | go_size | (simp at *; omega)))
  have HD : Hid (DsG w w2.heap.size w3.heap.size N gA cA gB cB gC cC gD cD W) := ⟨bchain hB3 hbW, hX3.below hbW hX3.lt, hY3.below hbW hY3.lt, hP3.below hbW hP3.lt, by rw [← hW]; exact Bx.new _ _ _, hM3.below hbW, hQ3.below hbW⟩
  have HS3 := hid (hs3.below hbW (by omega))
  rw [← hW] at HD HS3
  clear hW hbW hX3 hY3 hP3 hB3 hM3 hs3 hQ3 W
  go_wp2_with fail
  refine (pick_src _ A n c (0 + 130) xs 4 _ (by omega) (by omega) HS3.out).mono ?_
  rintro e w4 ⟨⟨y, y0, y1, rfl⟩, hs4, hg4⟩
  have HE : Hid (DsG w w2.heap.size w3.heap.size N gA cA gB cB gC cC gD cD w4) := by
    obtain ⟨h1, h2, h3, h4, h5, h6, h7⟩ := HD.out
    exact ⟨h1.grown hg4 h1.size (fun g h => by injection h with h; omega), h2.grown hg4 (fun e => by injection e with e; omega), h3.grown hg4 (fun e => by injection e with e; omega), h4.grown hg4 (fun e => by injection e with e; omega), h5.grown hg4 (fun e => by injection e with e; omega), h6.ask HS3.out hg4, h7.ask HS3.out hg4⟩
  clear HD HS3 hs4 hg4
  have b0 := bx_p0 HE.out.2.2.2.2.1
  have b1 := bx_p1 HE.out.2.2.2.2.1
  have b2 := HE.out.2.2.2.2.1.frozen 0
  have b3 := HE.out.2.2.2.2.1.frozen 1
  obtain ⟨⟨qa, ra⟩, s0, s1, s2, s3⟩ := HE.out.2.2.2.2.2.2.atA (show 0 < N by omega)
  obtain ⟨⟨qb, rb⟩, t0, t1, t2, t3⟩ := HE.out.2.2.2.2.2.2.atB (show 0 < N by omega)
  simp only [Nat.zero_mul] at s0 s1 s2 s3 t0 t1 t2 t3
  have hN0 : 0 < N := by omega
  have hNi : (1 : Int) ≤ (N : Int) := by omega
  have hgbw : w.heap.size + 1 < w3.heap.size := by omega
  have hgne : w2.heap.size ≠ w3.heap.size := by omega
  go_upto_block 0 with fail
  go_cut [] (fun wx => Hid (∃ (D : Option Addr) (m d : Nat), DsE w w2.heap.size w3.heap.size N gA cA gB cB gC cC D m d wx))
  case first =>
    by_cases c0 : y = 0
    · subst c0
      have HF := hid (HE.out.poke0 0 (wrap64 (qa + 1)))
      simp only [Nat.zero_mul] at HF
      clear HE
      go_wp2_with fail
      go_meet
      exact hid ⟨_, _, _, HF.out.same hN2⟩
    · by_cases c1 : y = 1
      · subst c1
        have HF := hid ((HE.out.poke1 0 (!rb)).same hN2)
        simp only [Nat.zero_mul] at HF
        clear HE
        go_wp2
        go_region
        go_wp2_with fail
        go_meet
        exact hid ⟨_, _, _, HF.out.drew⟩
      · by_cases c2 : y = 2
        · subst c2
          have HT := hid (fun (D : Option Addr) (d' : Nat) (hD : D = some ⟨gD, 2, none⟩ ∨ N = 1) => HE.out.tail (d' := d') hN2 hN1 hgbw hgne D hD)
          have hcap : N ≤ cD := by
            obtain ⟨p, q, _, h1⟩ := HE.out.2.2.2.2.2.2
            obtain ⟨_, _, e, _, h⟩ := own_form2 h1
            injection e with _ _ e
            omega
          clear HE
          by_cases hc1 : cD = 1
          · subst hc1
            have HNN : Hid (N = 1) := by show _ = _; omega
            go_wp2_with fail
            go_meet
            obtain rfl : N = 1 := HNN.out
            exact hid ⟨_, _, _, HT.out (some ⟨gD, 0, none⟩) 0 (.inr rfl)⟩
          · go_wp2_with fail
            go_meet
            exact hid ⟨_, _, _, HT.out (some ⟨gD, 2, none⟩) (cD - 1) (.inl rfl)⟩
        · have k0 : (y == 0) = false := by simpa using c0
          have k1 : (y == 1) = false := by simpa using c1
          have k2 : (y == 2) = false := by simpa using c2
          have HF := hid (HE.out.same hN2)
          clear HE
          go_wp2_with fail
          go_meet
          exact hid ⟨_, _, _, HF.out⟩
  case rest =>
    clear HE b0 b1 b2 b3 s0 s1 s2 s3 t0 t1 t2 t3
    obtain ⟨D, m, d, h1, h2, h3, h4, h5, h6, h7⟩ := hcut.out
    clear hcut
    have x0 := bx_p0 h2
    have x1 := bx_p1 h2
    have x2 := h2.frozen 0
    have x3 := h2.frozen 1
    have y0 := bx_p0 h3
    have y1 := bx_p1 h3
    have y2 := h3.frozen 0
    have y3 := h3.frozen 1
    have p0 := bx_p0 h4
    have p1 := bx_p1 h4
    have q0 := bx_p0 h5
    have q1 := bx_p1 h5
    obtain ⟨W, hW⟩ : ∃ W, (((wc.setCell ⟨w.heap.size, 0, none⟩ (.slice (some ⟨gA, 0, none⟩) N cA)).setCell ⟨w.heap.size, 1, none⟩ (.slice (some ⟨gB, 0, none⟩) N cB)).setCell ⟨w.heap.size + 1, 0, none⟩ (.slice (some ⟨gC, 0, none⟩) N cC)).setCell ⟨w.heap.size + 1, 1, none⟩ (.slice D m d) = W := ⟨_, rfl⟩
    have k2 : Bx W w.heap.size 35 #[.slice (some ⟨gA, 0, none⟩) N cA, .slice (some ⟨gB, 0, none⟩) N cB] := by
      rw [← hW]
      exact (((h2.set_ 0 _).set_ 1 _).far (p := ⟨w.heap.size + 1, 0, none⟩) (by show w.heap.size ≠ w.heap.size + 1; omega) _).far (p := ⟨w.heap.size + 1, 1, none⟩) (by show w.heap.size ≠ w.heap.size + 1; omega) _
    have k3 : Bx W (w.heap.size + 1) 35 #[.slice (some ⟨gC, 0, none⟩) N cC, .slice D m d] := by
      rw [← hW]
      exact (((h3.far (p := ⟨w.heap.size, 0, none⟩) (by show w.heap.size + 1 ≠ w.heap.size; omega) _).far (p := ⟨w.heap.size, 1, none⟩) (by show w.heap.size + 1 ≠ w.heap.size; omega) _).set_ 0 _).set_ 1 _
    have HB : Hid (Below w.heap.size w W) := by
      rw [← hW]
      exact (((h1.setCell (p := ⟨w.heap.size, 0, none⟩) (by show w.heap.size ≤ w.heap.size; omega) _).setCell (p := ⟨w.heap.size, 1, none⟩) (by show w.heap.size ≤ w.heap.size; omega) _).setCell (p := ⟨w.heap.size + 1, 0, none⟩) (by show w.heap.size ≤ w.heap.size + 1; omega) _).setCell (p := ⟨w.heap.size + 1, 1, none⟩) (by show w.heap.size ≤ w.heap.size + 1; omega) _
    have key : ∀ {X Y : Option Addr} {n' m' : Nat}, Pe (w.heap.size + 2) wc X n' Y m' → Pe w.heap.size W X n' Y m' := by
      rintro X Y n' m' ⟨p, u1, u2, u3, u4⟩
      have zz : wc.heap.size ≤ W.heap.size := by rw [← hW]; simp
      have kk : ∀ q : Addr, w.heap.size + 2 ≤ q.block → q.block < wc.heap.size → W.cell? q = wc.cell? q := by
        intro q q1 q2
        rw [← hW]
        unfold World.cell?
        rw [Below.heap_setCell _ _ _ q.block (by show q.block ≠ w.heap.size + 1; omega), Below.heap_setCell _ _ _ q.block (by show q.block ≠ w.heap.size + 1; omega), Below.heap_setCell _ _ _ q.block (by show q.block ≠ w.heap.size; omega), Below.heap_setCell _ _ _ q.block (by show q.block ≠ w.heap.size; omega)]
      exact ⟨p, (u1.keep kk).more (by omega) zz, (u2.keep kk).more (by omega) zz, u3, u4⟩
    have H6 := hid (key h6)
    have H7 := hid (key h7)
    have r0 : W.drew.cell? ⟨w.heap.size, 0, none⟩ = _ := bx_p0 k2
    have r1 : W.drew.cell? ⟨w.heap.size, 1, none⟩ = _ := bx_p1 k2
    have r2 : W.drew.cell? ⟨w.heap.size + 1, 0, none⟩ = _ := bx_p0 k3
    have r3 : W.drew.cell? ⟨w.heap.size + 1, 1, none⟩ = _ := bx_p1 k3
    have HW := hid hW
    clear h1 h2 h3 h4 h5 h6 h7 key k2 k3 hW
    go_wp2
    go_region
    rw [HW.out]
    go_wp2
    refine bodyPost_ret (v := .tuple #[.agg #[.slice (some ⟨gA, 0, none⟩) N cA, .slice (some ⟨gB, 0, none⟩) N cB], .agg #[.slice (some ⟨gC, 0, none⟩) N cC, .slice D m d]]) ?_ rfl ?_
    · simp (maxDischargeDepth := 8) [results, Try.results22, go_sem, *]
    exact ⟨⟨_, _, _, _, _, _, _, _, _, _, _, _, rfl, H6.out, H7.out⟩, HB.out.drew⟩
end Go.Proofs.Ytlbhfjbbkkkldaa
