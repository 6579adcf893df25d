/- Contracts of the functions that draw lists of beats that need not be patterns. -/
import Derived.Test.YtjagejalchfhlaaYg
namespace Go.Proofs.Ytjagejalchfhlaa
open Go.RowKit
set_option linter.unusedVariables false

theorem sy_set1i {ws : World} {B N b c : Nat} {q : List Beat} (h : ws.ownsRow B 92 4 (.slice (some ⟨b, 0, none⟩) N c) N (bts q)) (J : Nat) (hJ : J < N) (v : Int) :
    (∃ u, ws.cell? ⟨b, J * 4, none⟩ = some u) ∧ ws.frozen? ⟨b, J * 4, none⟩ = false ∧ ∃ q' : List Beat, q'.length = q.length ∧ (ws.setCell ⟨b, J * 4, none⟩ (.int .i64 v)).ownsRow B 92 4 (.slice (some ⟨b, 0, none⟩) N c) N (bts q') := by
  have hl := h.1
  obtain ⟨h2, _⟩ := h.stored (J * 4) (.int .i64 v)
  rw [bts_set0] at h2
  refine ⟨?_, h.frozenAt _, _, by simp, h2⟩
  rw [h.cellAt (J * 4) (by omega)]
  exact ⟨_, List.getElem?_eq_getElem (by omega)⟩
theorem sy_set3b {ws : World} {B N b c : Nat} {q : List Beat} (h : ws.ownsRow B 92 4 (.slice (some ⟨b, 0, none⟩) N c) N (bts q)) (J : Nat) (hJ : J < N) :
    ∃ x : Bool, ws.cell? ⟨b, J * 4 + 3, none⟩ = some (.bool x) ∧ ws.frozen? ⟨b, J * 4 + 3, none⟩ = false ∧ ∀ v : Bool, ∃ q' : List Beat, q'.length = q.length ∧ (ws.setCell ⟨b, J * 4 + 3, none⟩ (.bool v)).ownsRow B 92 4 (.slice (some ⟨b, 0, none⟩) N c) N (bts q') := by
  have hl := h.1
  rw [bts_len] at hl
  refine ⟨(q[J]'(by omega)).2.2, ?_, h.frozenAt _, fun v => ?_⟩
  · rw [h.cellAt (J * 4 + 3) (by omega)]
    exact (bts_at (List.getElem?_eq_getElem (show J < q.length by omega))).2.2.2
  · obtain ⟨h2, _⟩ := h.stored (J * 4 + 3) (.bool v)
    rw [bts_set3] at h2
    exact ⟨_, by simp, h2⟩
theorem sy_set1b {ws : World} {B N b c : Nat} {q : List Beat} (h : ws.ownsRow B 92 4 (.slice (some ⟨b, 0, none⟩) N c) N (bts q)) (J : Nat) (hJ : J < N) :
    ∃ x : Bool, ws.cell? ⟨b, J * 4 + 1, none⟩ = some (.bool x) ∧ ws.frozen? ⟨b, J * 4 + 1, none⟩ = false ∧ ∀ v : Bool, ∃ q' : List Beat, q'.length = q.length ∧ (ws.setCell ⟨b, J * 4 + 1, none⟩ (.bool v)).ownsRow B 92 4 (.slice (some ⟨b, 0, none⟩) N c) N (bts q') := by
  have hl := h.1
  rw [bts_len] at hl
  refine ⟨(q[J]'(by omega)).1.2, ?_, h.frozenAt _, fun v => ?_⟩
  · rw [h.cellAt (J * 4 + 1) (by omega)]
    exact (bts_at (List.getElem?_eq_getElem (show J < q.length by omega))).2.1
  · obtain ⟨h2, _⟩ := h.stored (J * 4 + 1) (.bool v)
    rw [bts_set1] at h2
    exact ⟨_, by simp, h2⟩
theorem six_any (w : World) (t : TypeId) (a b c d e f : Int) : ∀ i, i < 6 → ∃ y : Int, (w.alloc (Obj.cells #[.int .i64 a, .int .i64 b, .int .i64 c, .int .i64 d, .int .i64 e, .int .i64 f] t)).cell? ⟨w.heap.size, 0 + i, none⟩ = some (.int .i64 y) := by
  intro i hi
  rw [World.cell?_alloc_at _ _ _ _ rfl]
  match i, hi with
  | 0, _ => exact ⟨_, rfl⟩
  | 1, _ => exact ⟨_, rfl⟩
  | 2, _ => exact ⟨_, rfl⟩
  | 3, _ => exact ⟨_, rfl⟩
  | 4, _ => exact ⟨_, rfl⟩
  | 5, _ => exact ⟨_, rfl⟩
set_option maxHeartbeats 1000000 in
theorem l05Bent_src (g : Nat) (A : Option Addr) (n c K : Nat) (xs : List Int) (w : World) (hK : K ≤ 500) (h : Src w g A n c xs K) :
    Calls Try.prog 94 #[.pointer (some ⟨g, 0, none⟩)] w fun e w' => ∃ v, e = .returned v ∧ SyRow w.heap.size 7 w' v ∧ Src w' g A n c xs (K + 100) ∧ w.grownBy w' (some g) := by
  have hgl := h.lt
  have hP := hid (l05Draw_src g A n c K xs 3 w (by omega) (by omega) (by omega) h)
  clear h
  go_enter Try.func94, Try.ntmps94
  go_wp2_with fail
  refine hP.out.mono ?_
  rintro e w1 ⟨v1, rfl, ⟨p, hp1, hp2, ho1⟩, hs1, hg1⟩
  obtain ⟨gp, cp, rfl, hgp, hgp1⟩ := own_block ho1 (by omega)
  have hz1 := hg1.size
  clear hP
  go_wp2_with fail
  refine (pick_src g A n c (K + 50) xs (p.length : Int) w1 (by omega) (by omega) hs1).mono ?_
  rintro e w2 ⟨⟨x, x0, x1, rfl⟩, hs2, hg2⟩
  obtain ⟨a, rfl⟩ := Int.eq_ofNat_of_zero_le x0
  have ha : a < p.length := by omega
  have hai : (a : Int) < (p.length : Int) := by omega
  have ho2 := own_ask' ho1 hs1 hg2
  have hgg2 := grown_trans hg1 hg2
  have hz2 := hg2.size
  clear x1 hs1 hg1 hg2 ho1
  go_wp2_with fail
  refine (pick_src g A n c (K + 52) xs 18 w2 (by omega) (by omega) hs2).mono ?_
  rintro e w3 ⟨⟨y, y0, y1, rfl⟩, hs3, hg3⟩
  have ho3 := own_ask' ho2 hs2 hg3
  have hgg3 := grown_trans hgg2 hg3
  have hz3 := hg3.size
  clear hs2 hgg2 hg3 ho2
  by_cases c0 : y = 0
  · subst c0
    go_wp2_with fail
    have hs3a : Src (w3.alloc (Obj.cells #[.int .i64 (-2), .int .i64 1, .int .i64 3, .int .i64 14, .int .i64 15, .int .i64 16] 2)) g A n c xs (K + 54) := hs3.below (B := w3.heap.size) ((Below.refl _ _).alloc (Nat.le_refl _) _) (by omega)
    have hg3a : w.grownBy (w3.alloc (Obj.cells #[.int .i64 (-2), .int .i64 1, .int .i64 3, .int .i64 14, .int .i64 15, .int .i64 16] 2)) (some g) := grown_bl hgg3 (B := w3.heap.size) ((Below.refl _ _).alloc (Nat.le_refl _) _) (by omega)
    have ho3a := ho3.alloc (Obj.cells #[.int .i64 (-2), .int .i64 1, .int .i64 3, .int .i64 14, .int .i64 15, .int .i64 16] 2)
    refine (among_src g A n c (K + 54) xs w3.heap.size 0 6 6 _ (by omega) (by omega) (by simp) (by omega) (by omega) (six_any w3 _ _ _ _ _ _ _) hs3a).mono ?_
    rintro e w4 ⟨⟨z, rfl⟩, hs4, hg4⟩
    have ho4 := own_ask' ho3a hs3a hg4
    have hgg4 := grown_trans hg3a hg4
    have hz4 := hg4.size
    obtain ⟨⟨u4, hc4⟩, hf4, q', hq', ho5⟩ := sy_set1i ho4 a ha z
    have hb5 : Below w.heap.size w4 (w4.setCell ⟨gp, a * 4, none⟩ (.int .i64 z)) := (by repeat' (first | exact Below.refl _ _ | (with_reducible assumption) | (with_reducible refine Below.alloc ?_ ?_ _) | (with_reducible refine Below.setCell ?_ ?_ _) | (with_reducible refine Below.drew ?_) | (with_reducible refine below_drewN ?_ _) | (refine Below.trans ?_ (Below.mono (by assumption) ?_)) | (with_reducible exact Nat.le_refl _) | (with_reducible assumption) | (exact Below.size (by assumption)) | omega | go_size | (simp at *; omega)))
    have HO5 := hid ho5
    have HQ := hid hq'
    clear ho3 ho3a hs3a hg3a hg4 ho4 ho5 hq'
    go_wp2
    go_ret
    exact ⟨_, rfl, ⟨q', by rw [HQ.out]; omega, by rw [HQ.out]; exact HO5.out⟩, (hs4.below hb5 hgl).more (by omega), grown_bl hgg4 hb5 (Nat.le_refl _)⟩
  · by_cases c1 : y = 1
    · subst c1
      obtain ⟨x, hcx, hf4, hq⟩ := sy_set3b ho3 a ha
      obtain ⟨q', hq', ho5⟩ := hq (!x)
      have hb5 : Below w.heap.size w3 (w3.setCell ⟨gp, a * 4 + 3, none⟩ (.bool (!x))) := (by repeat' (first | exact Below.refl _ _ | (with_reducible assumption) | (with_reducible refine Below.alloc ?_ ?_ _) | (with_reducible refine Below.setCell ?_ ?_ _) | (with_reducible refine Below.drew ?_) | (with_reducible refine below_drewN ?_ _) | (refine Below.trans ?_ (Below.mono (by assumption) ?_)) | (with_reducible exact Nat.le_refl _) | (with_reducible assumption) | (exact Below.size (by assumption)) | omega | go_size | (simp at *; omega)))
      have HO5 := hid ho5
      have HQ := hid hq'
      clear ho3 ho5 hq' hq
      go_wp2
      go_ret
      exact ⟨_, rfl, ⟨q', by rw [HQ.out]; omega, by rw [HQ.out]; exact HO5.out⟩, (hs3.below hb5 hgl).more (by omega), grown_bl hgg3 hb5 (Nat.le_refl _)⟩
    · by_cases c2 : y = 2
      · subst c2
        go_wp2
        go_ret
        exact ⟨_, rfl, ⟨[], by simp, World.ownsRow_lit (base := w.heap.size) w3 #[] (e := 92) (size := 4) 0 (by omega) (by simp [maxLen]) rfl⟩, (hs3.below (B := w3.heap.size) ((Below.refl _ _).alloc (Nat.le_refl _) _) (by omega)).more (by omega), grown_bl hgg3 (B := w3.heap.size) ((Below.refl _ _).alloc (Nat.le_refl _) _) (by omega)⟩
      · by_cases c3 : y = 3
        · subst c3
          go_wp2_with fail
          have hs3a : Src (w3.alloc (Obj.cells #[] 92)) g A n c xs (K + 54) := hs3.below (B := w3.heap.size) ((Below.refl _ _).alloc (Nat.le_refl _) _) (by omega)
          have hg3a : w.grownBy (w3.alloc (Obj.cells #[] 92)) (some g) := grown_bl hgg3 (B := w3.heap.size) ((Below.refl _ _).alloc (Nat.le_refl _) _) (by omega)
          have ho3a : (w3.alloc (Obj.cells #[] 92)).ownsRow w.heap.size 92 4 (.slice (some ⟨w3.heap.size, 0, none⟩) 0 0) ([] : List Beat).length (bts []) := World.ownsRow_lit (base := w.heap.size) w3 #[] (e := 92) (size := 4) 0 (by omega) (by simp [maxLen]) rfl
          refine (pick_src g A n c (K + 54) xs 2 _ (by omega) (by omega) hs3a).mono ?_
          rintro e w4 ⟨⟨z, z0, z1, rfl⟩, hs4, hg4⟩
          have ho4 := own_ask' ho3a hs3a hg4
          have hgg4 := grown_trans hg3a hg4
          have hz4 := hg4.size
          have z2 : z ≤ 1 := by omega
          clear ho3 hs3 hgg3 hg4 ho3a hs3a hg3a z1
          go_wp2
          go_loopw [3, 5] (fun v i wr => Hid (∃ (out : List Beat) (r : Int), i = .int .i64 r ∧ 0 ≤ r ∧ (out.length : Int) + r ≤ 7 ∧ Src wr g A n c xs (K + 56) ∧ wr.ownsRow w.heap.size 92 4 v out.length (bts out) ∧ w.grownBy wr (some g))) (fun _ i _ => (intOf i).toNat)
          case atStart => exact hid ⟨[], 6 + z, rfl, by omega, by simp; omega, hs4, ho4, hgg4⟩
          case round =>
            obtain ⟨out, r, rfl, hr0, hol, hs, ho, hg⟩ := hrel.out
            have hz := hg.size
            clear hs4 ho4 hgg4 hrel
            by_cases hlt : 0 < r
            · go_wp2_with (at_builtin; refine push_bt ho 4 false 4 false _ rfl _ _ rfl rfl rfl (by first | rfl | simp) (by omega) (by omega) ?_; intro v5 w5 ho5 hb5 hg5)
              go_roundw
              case rel => exact hid ⟨out ++ [((4, false), (4, false))], r - 1, by go_num, by omega, by rw [List.length_append, List.length_singleton]; omega, hs.below hb5 hgl, ho5, grown_bl hg hb5 (Nat.le_refl _)⟩
              case measure => simp [intOf]; omega
            · go_wp2
              go_ret
              exact ⟨_, rfl, ⟨out, by omega, ho⟩, hs.more (by omega), hg⟩
        · by_cases c4 : y = 4
          · subst c4
            go_wp2_with fail
            refine (pick_src g A n c (K + 54) xs 5 w3 (by omega) (by omega) hs3).mono ?_
            rintro e w4 ⟨⟨z, z0, z1, rfl⟩, hs4, hg4⟩
            have ho4 := own_ask' ho3 hs3 hg4
            have hgg4 := grown_trans hgg3 hg4
            have hz4 := hg4.size
            obtain ⟨⟨ua, hca⟩, hfa, ⟨ub, hcb⟩, hfb, q', hq', hor⟩ := sy_set2 ho4 a ha (.inl rfl) (2 * z) false
            have hb5 : Below w.heap.size w4 ((w4.setCell ⟨gp, a * 4, none⟩ (.int .i64 (2 * z))).setCell ⟨gp, a * 4 + 1, none⟩ (.bool false)) := (by repeat' (first | exact Below.refl _ _ | (with_reducible assumption) | (with_reducible refine Below.alloc ?_ ?_ _) | (with_reducible refine Below.setCell ?_ ?_ _) | (with_reducible refine Below.drew ?_) | (with_reducible refine below_drewN ?_ _) | (refine Below.trans ?_ (Below.mono (by assumption) ?_)) | (with_reducible exact Nat.le_refl _) | (with_reducible assumption) | (exact Below.size (by assumption)) | omega | go_size | (simp at *; omega)))
            have HO5 := hid hor
            have HQ := hid hq'
            clear ho3 ho4 hor hq' hs3
            go_wp2
            go_ret
            exact ⟨_, rfl, ⟨q', by rw [HQ.out]; omega, by rw [HQ.out]; exact HO5.out⟩, (hs4.below hb5 hgl).more (by omega), grown_bl hgg4 hb5 (Nat.le_refl _)⟩
          · go_wp2
            go_ret
            exact ⟨_, rfl, ⟨p, by omega, ho3⟩, hs3.more (by omega), hgg3⟩
theorem DrawMirrorSync_any (A : Option Addr) (n c : Nat) (xs : List Int) (w : World) (hn : n ≤ 1099511627776) (hx : ∀ x ∈ xs, 0 ≤ x ∧ x ≤ 255) (hr : Rd w w.heap.size 1 A n (xs.map (Value.int .u8))) :
    Calls Try.prog 12 #[.slice A n c] w fun e w' => ∃ v, e = .returned v ∧ SyRow w.heap.size 7 w' v ∧ Below w.heap.size w w' := by
  have h0 := hid (l00From_any A n c xs w hn hx hr)
  clear hx hr
  go_enter Try.func12, Try.ntmps12
  go_wp2_with fail
  refine h0.out.mono ?_
  rintro e w1 ⟨rfl, hs1, hb1⟩
  have z1 := hb1.size
  have l1 := hs1.lt
  clear h0
  go_wp2_with fail
  refine (l05Bent_src _ A n c 0 xs w1 (by omega) hs1).mono ?_
  rintro e w2 ⟨v2, rfl, ⟨p, hp, ho2⟩, hs2, hg2⟩
  have hB2 : Below w.heap.size w w2 := hb1.grown hg2 z1 (fun g h => by simp at h; omega)
  go_wp2
  go_ret
  exact ⟨_, rfl, ⟨p, hp, own_more ho2 (by omega)⟩, hB2⟩
theorem DrawStarSync_any (A : Option Addr) (n c : Nat) (xs : List Int) (w : World) (hn : n ≤ 1099511627776) (hx : ∀ x ∈ xs, 0 ≤ x ∧ x ≤ 255) (hr : Rd w w.heap.size 1 A n (xs.map (Value.int .u8))) :
    Calls Try.prog 15 #[.slice A n c] w fun e w' => ∃ v, e = .returned v ∧ SyRow w.heap.size 7 w' v ∧ Below w.heap.size w w' := by
  have h0 := hid (l00From_any A n c xs w hn hx hr)
  clear hx hr
  go_enter Try.func15, Try.ntmps15
  go_wp2_with fail
  refine h0.out.mono ?_
  rintro e w1 ⟨rfl, hs1, hb1⟩
  have z1 := hb1.size
  have l1 := hs1.lt
  clear h0
  go_wp2_with fail
  refine (l05Bent_src _ A n c 0 xs w1 (by omega) hs1).mono ?_
  rintro e w2 ⟨v2, rfl, ⟨p, hp, ho2⟩, hs2, hg2⟩
  have hB2 : Below w.heap.size w w2 := hb1.grown hg2 z1 (fun g h => by simp at h; omega)
  go_wp2
  go_ret
  exact ⟨_, rfl, ⟨p, hp, own_more ho2 (by omega)⟩, hB2⟩
theorem DrawSyncClash_any (A : Option Addr) (n c : Nat) (xs : List Int) (w : World) (hn : n ≤ 1099511627776) (hx : ∀ x ∈ xs, 0 ≤ x ∧ x ≤ 255) (hr : Rd w w.heap.size 1 A n (xs.map (Value.int .u8))) :
    Calls Try.prog 18 #[.slice A n c] w fun e w' => ∃ v, e = .returned v ∧ SyRow w.heap.size 7 w' v ∧ Below w.heap.size w w' := by
  have h0 := hid (l00From_any A n c xs w hn hx hr)
  clear hx hr
  go_enter Try.func18, Try.ntmps18
  go_wp2_with fail
  refine h0.out.mono ?_
  rintro e w1 ⟨rfl, hs1, hb1⟩
  have z1 := hb1.size
  have l1 := hs1.lt
  clear h0
  go_wp2_with fail
  refine (l05Bent_src _ A n c 0 xs w1 (by omega) hs1).mono ?_
  rintro e w2 ⟨v2, rfl, ⟨p, hp, ho2⟩, hs2, hg2⟩
  have hB2 : Below w.heap.size w w2 := hb1.grown hg2 z1 (fun g h => by simp at h; omega)
  go_wp2
  go_ret
  exact ⟨_, rfl, ⟨p, hp, own_more ho2 (by omega)⟩, hB2⟩
theorem DrawSyncText_any (A : Option Addr) (n c : Nat) (xs : List Int) (w : World) (hn : n ≤ 1099511627776) (hx : ∀ x ∈ xs, 0 ≤ x ∧ x ≤ 255) (hr : Rd w w.heap.size 1 A n (xs.map (Value.int .u8))) :
    Calls Try.prog 44 #[.slice A n c] w fun e w' => ∃ v, e = .returned v ∧ SyRow w.heap.size 7 w' v ∧ Below w.heap.size w w' := by
  have h0 := hid (l00From_any A n c xs w hn hx hr)
  clear hx hr
  go_enter Try.func44, Try.ntmps44
  go_wp2_with fail
  refine h0.out.mono ?_
  rintro e w1 ⟨rfl, hs1, hb1⟩
  have z1 := hb1.size
  have l1 := hs1.lt
  clear h0
  go_wp2_with fail
  refine (l05Bent_src _ A n c 0 xs w1 (by omega) hs1).mono ?_
  rintro e w2 ⟨v2, rfl, ⟨p, hp, ho2⟩, hs2, hg2⟩
  have hB2 : Below w.heap.size w w2 := hb1.grown hg2 z1 (fun g h => by simp at h; omega)
  go_wp2
  go_ret
  exact ⟨_, rfl, ⟨p, hp, own_more ho2 (by omega)⟩, hB2⟩
theorem DrawSlideSync_any (A : Option Addr) (n c : Nat) (xs : List Int) (w : World) (hn : n ≤ 1099511627776) (hx : ∀ x ∈ xs, 0 ≤ x ∧ x ≤ 255) (hr : Rd w w.heap.size 1 A n (xs.map (Value.int .u8))) :
    Calls Try.prog 26 #[.slice A n c] w fun e w' => ∃ v, e = .returned v ∧ SyRow w.heap.size 7 w' v ∧ Below w.heap.size w w' := by
  have h0 := hid (l00From_any A n c xs w hn hx hr)
  clear hx hr
  go_enter Try.func26, Try.ntmps26
  go_wp2_with fail
  refine h0.out.mono ?_
  rintro e w1 ⟨rfl, hs1, hb1⟩
  have z1 := hb1.size
  have l1 := hs1.lt
  clear h0
  go_wp2_with fail
  refine (l05Bent_src _ A n c 0 xs w1 (by omega) hs1).mono ?_
  rintro e w2 ⟨v2, rfl, ⟨p, hp, ho2⟩, hs2, hg2⟩
  have hB2 : Below w.heap.size w w2 := hb1.grown hg2 z1 (fun g h => by simp at h; omega)
  go_wp2
  go_ret
  exact ⟨_, rfl, ⟨p, hp, own_more ho2 (by omega)⟩, hB2⟩
/-- Two lists of beats of the call's own. -/
def SyTwo (B : Nat) (e : Ending) (w : World) : Prop := ∃ v1 v2, e = .returned (.tuple #[v1, v2]) ∧ SyRow B 7 w v1 ∧ SyRow B 8 w v2
set_option maxHeartbeats 1000000 in
theorem DrawSameSync_any (A : Option Addr) (n c : Nat) (xs : List Int) (w : World) (hn : n ≤ 1099511627776) (hx : ∀ x ∈ xs, 0 ≤ x ∧ x ≤ 255) (hr : Rd w w.heap.size 1 A n (xs.map (Value.int .u8))) :
    Calls Try.prog 21 #[.slice A n c] w fun e w' => SyTwo w.heap.size e w' ∧ Below w.heap.size w w' := by
  have h0 := hid (l00From_any A n c xs w hn hx hr)
  clear hx hr
  go_enter Try.func21, Try.ntmps21
  go_wp2_with fail
  refine h0.out.mono ?_
  rintro e w1 ⟨rfl, hs1, hb1⟩
  have z1 := hb1.size
  have l1 := hs1.lt
  clear h0
  go_wp2_with fail
  refine (l05Bent_src _ A n c 0 xs w1 (by omega) hs1).mono ?_
  rintro e w2 ⟨v2, rfl, ⟨p, hp, ho2⟩, hs2, hg2⟩
  have hB2 : Below w.heap.size w w2 := hb1.grown hg2 z1 (fun g h => by simp at h; omega)
  have z2 := hg2.size
  obtain ⟨A2, c2, rfl, hA2⟩ := own_form3 ho2
  have HA2 := hid hA2
  have HR2 := hid (Rd.of_own ho2)
  have hba : Below w2.heap.size w2 (w2.alloc (Obj.cells #[] 92)) := (by repeat' (first | exact Below.refl _ _ | (with_reducible assumption) | (with_reducible refine Below.alloc ?_ ?_ _) | (with_reducible refine Below.setCell ?_ ?_ _) | (with_reducible refine Below.drew ?_) | (with_reducible refine below_drewN ?_ _) | (refine Below.trans ?_ (Below.mono (by assumption) ?_)) | (with_reducible exact Nat.le_refl _) | (with_reducible assumption) | (exact Below.size (by assumption)) | omega | go_size | (simp at *; omega)))
  have HO0 : Hid ((w2.alloc (Obj.cells #[] 92)).ownsRow w2.heap.size 92 4 (.slice (some ⟨w2.heap.size, 0, none⟩) 0 0) 0 []) := World.ownsRow_lit (base := w2.heap.size) w2 #[] (e := 92) (size := 4) 0 (Nat.le_refl _) (by simp [maxLen]) rfl
  have l2 : w1.heap.size - 1 ≤ w1.heap.size := by omega
  clear hA2 hg2 hs1 hb1
  by_cases hpl : 0 < p.length
  · skip
    go_wp2_with (at_builtin; refine app_own HO0.out A2 p.length c2 (bts p) (HR2.out.below hba (Nat.le_refl _)) HA2.out (bts_one p) Try.underlying24 inf_bt rfl (by omega) rfl (.tmp 11) (.tmp 12) rfl rfl rfl (by omega) (by omega) (by simp) ?_; intro v3 w3 ho3 hb3 hg3; rw [List.nil_append, Nat.zero_add] at ho3; obtain ⟨A3, c3, rfl, hA3⟩ := own_form3 ho3)
    have HO2lt : Hid (∀ g, (Value.slice A2 p.length c2).ownBlock = some g → g < w2.heap.size) := fun g h => (ho2.lt g h).2
    have hb23 : Below w2.heap.size w2 w3 := hba.trans hb3
    have hB3 := bchain hB2 hb23
    have z3 := hb23.size
    have hs3 := hs2.below hb23 (by omega)
    have ho23 := own_below ho2 hb23
    clear hs2 ho2 hb3 hba hg3 HO0
    obtain ⟨g3, c3', hv3, hg3a, hg3b⟩ := own_block ho3 hpl
    injection hv3 with e1 _ e3
    subst e1 e3
    obtain ⟨x, hcx, hfx, hqx⟩ := sy_set1b ho3 0 hpl
    obtain ⟨q', hq', ho4⟩ := hqx (!x)
    rw [Nat.zero_mul, Nat.zero_add] at hcx hfx ho4
    have hne : g3 ≠ w.heap.size := by omega
    clear hqx ho4
    go_wp2_with fail
    refine (one_src _ A n c (0 + 100) xs 2 _ (by omega) (by omega) hs3).mono ?_
    rintro e w4 ⟨⟨b4, rfl⟩, hs4, hg4⟩
    have ho24 := own_ask' ho23 hs3 hg4
    have ho34 := own_ask' ho3 hs3 hg4
    have hB4 : Below w.heap.size w w4 := hB3.grown hg4 hB3.size (fun g h => by simp at h; omega)
    have z4 := hg4.size
    clear hs3 ho23 ho3 hq' hcx hfx
    cases b4
    · have hsT := hid hs4
      have ho2T := hid ho24
      have ho3T := hid ho34
      have hBT := hid hB4
      have HQL : Hid (p.length = p.length) := rfl
      clear hs4 ho24 ho34
      go_wp2_with fail
      refine (one_src _ A n c (0 + 100 + 2) xs 6 _ (by omega) (by omega) hsT.out).mono ?_
      rintro e w7 ⟨⟨b7, rfl⟩, hs7, hg7⟩
      have ho2T := own_ask' ho2T.out hsT.out hg7
      have ho3T := own_ask' ho3T.out hsT.out hg7
      have hB7 : Below w.heap.size w w7 := hBT.out.grown hg7 hBT.out.size (fun g h => by simp at h; omega)
      have z7 := hg7.size
      clear hsT
      cases b7
      · go_wp2
        go_ret2
        exact ⟨⟨_, _, rfl, ⟨p, hp, own_more ho2T (by omega)⟩, ⟨p, by first | omega | (rw [HQL.out]; omega), by first | exact own_more ho3T (by omega) | (rw [HQL.out]; exact own_more ho3T (by omega))⟩⟩, hB7⟩
      · have ho3T : w7.ownsRow w2.heap.size 92 4 (.slice (some ⟨g3, 0, none⟩) p.length c3) (p).length (bts p) := by first | exact ho3T | (rw [HQL.out]; exact ho3T)
        have HO2 := hid ho2T
        have HO3 := hid ho3T
        have hq7 : p.length ≤ 7 := by first | exact hp | (rw [HQL.out]; exact hp)
        clear ho2T ho3T
        go_wp2_with (at_builtin; refine push_bt HO3.out 0 false 0 false _ rfl _ _ rfl rfl rfl (by first | rfl | simp) (by omega) (by omega) ?_; intro v8 w8 ho8 hb8 hg8)
        have ho28 := own_low HO2.out hb8 (fun g h => HO2lt.out g h)
        go_ret2
        exact ⟨⟨_, _, rfl, ⟨p, hp, own_more ho28 (by omega)⟩, ⟨p ++ [((0, false), (0, false))], by rw [List.length_append, List.length_singleton]; omega, own_more ho8 (by omega)⟩⟩, (by repeat' (first | exact Below.refl _ _ | (with_reducible assumption) | (with_reducible refine Below.alloc ?_ ?_ _) | (with_reducible refine Below.setCell ?_ ?_ _) | (with_reducible refine Below.drew ?_) | (with_reducible refine below_drewN ?_ _) | (refine Below.trans ?_ (Below.mono (by assumption) ?_)) | (with_reducible exact Nat.le_refl _) | (with_reducible assumption) | (exact Below.size (by assumption)) | omega | go_size | (simp at *; omega)))⟩
    · obtain ⟨x, hcx, hfx, hqx⟩ := sy_set1b ho34 0 hpl
      obtain ⟨q', hq', ho4⟩ := hqx (!x)
      rw [Nat.zero_mul, Nat.zero_add] at hcx hfx ho4
      have hbs : Below w2.heap.size w4 (w4.setCell ⟨g3, 1, none⟩ (.bool (!x))) := (by repeat' (first | exact Below.refl _ _ | (with_reducible assumption) | (with_reducible refine Below.alloc ?_ ?_ _) | (with_reducible refine Below.setCell ?_ ?_ _) | (with_reducible refine Below.drew ?_) | (with_reducible refine below_drewN ?_ _) | (refine Below.trans ?_ (Below.mono (by assumption) ?_)) | (with_reducible exact Nat.le_refl _) | (with_reducible assumption) | (exact Below.size (by assumption)) | omega | go_size | (simp at *; omega)))
      have zT : w4.heap.size ≤ (w4.setCell ⟨g3, 1, none⟩ (.bool (!x))).heap.size := by simp
      have hsT := hid (hs4.below hbs (by omega))
      have ho2T := hid (own_low ho24 hbs (fun g h => HO2lt.out g h))
      have ho3T := hid ho4
      have hBT := hid (hB4.trans (hbs.mono (by omega)))
      have HQL := hid hq'
      clear hs4 ho24 ho34 hqx ho4 hq'
      go_wp2_with fail
      refine (one_src _ A n c (0 + 100 + 2) xs 6 _ (by omega) (by omega) hsT.out).mono ?_
      rintro e w7 ⟨⟨b7, rfl⟩, hs7, hg7⟩
      have ho2T := own_ask' ho2T.out hsT.out hg7
      have ho3T := own_ask' ho3T.out hsT.out hg7
      have hB7 : Below w.heap.size w w7 := hBT.out.grown hg7 hBT.out.size (fun g h => by simp at h; omega)
      have z7 := hg7.size
      clear hsT
      cases b7
      · go_wp2
        go_ret2
        exact ⟨⟨_, _, rfl, ⟨p, hp, own_more ho2T (by omega)⟩, ⟨q', by first | omega | (rw [HQL.out]; omega), by first | exact own_more ho3T (by omega) | (rw [HQL.out]; exact own_more ho3T (by omega))⟩⟩, hB7⟩
      · have ho3T : w7.ownsRow w2.heap.size 92 4 (.slice (some ⟨g3, 0, none⟩) p.length c3) (q').length (bts q') := by first | exact ho3T | (rw [HQL.out]; exact ho3T)
        have HO2 := hid ho2T
        have HO3 := hid ho3T
        have hq7 : q'.length ≤ 7 := by first | exact hp | (rw [HQL.out]; exact hp)
        clear ho2T ho3T
        go_wp2_with (at_builtin; refine push_bt HO3.out 0 false 0 false _ rfl _ _ rfl rfl rfl (by first | rfl | simp) (by omega) (by omega) ?_; intro v8 w8 ho8 hb8 hg8)
        have ho28 := own_low HO2.out hb8 (fun g h => HO2lt.out g h)
        go_ret2
        exact ⟨⟨_, _, rfl, ⟨p, hp, own_more ho28 (by omega)⟩, ⟨q' ++ [((0, false), (0, false))], by rw [List.length_append, List.length_singleton]; omega, own_more ho8 (by omega)⟩⟩, (by repeat' (first | exact Below.refl _ _ | (with_reducible assumption) | (with_reducible refine Below.alloc ?_ ?_ _) | (with_reducible refine Below.setCell ?_ ?_ _) | (with_reducible refine Below.drew ?_) | (with_reducible refine below_drewN ?_ _) | (refine Below.trans ?_ (Below.mono (by assumption) ?_)) | (with_reducible exact Nat.le_refl _) | (with_reducible assumption) | (exact Below.size (by assumption)) | omega | go_size | (simp at *; omega)))⟩
  · skip
    go_wp2_with (at_builtin; refine app_own HO0.out A2 p.length c2 (bts p) (HR2.out.below hba (Nat.le_refl _)) HA2.out (bts_one p) Try.underlying24 inf_bt rfl (by omega) rfl (.tmp 11) (.tmp 12) rfl rfl rfl (by omega) (by omega) (by simp) ?_; intro v3 w3 ho3 hb3 hg3; rw [List.nil_append, Nat.zero_add] at ho3; obtain ⟨A3, c3, rfl, hA3⟩ := own_form3 ho3)
    have HO2lt : Hid (∀ g, (Value.slice A2 p.length c2).ownBlock = some g → g < w2.heap.size) := fun g h => (ho2.lt g h).2
    have hb23 : Below w2.heap.size w2 w3 := hba.trans hb3
    have hB3 := bchain hB2 hb23
    have z3 := hb23.size
    have hs3 := hs2.below hb23 (by omega)
    have ho23 := own_below ho2 hb23
    clear hs2 ho2 hb3 hba hg3 HO0
    have hsT := hid hs3
    have ho2T := hid ho23
    have ho3T := hid ho3
    have hBT := hid hB3
    have HQL : Hid (p.length = p.length) := rfl
    clear hs3 ho23 ho3
    go_wp2_with fail
    refine (one_src _ A n c (0 + 100) xs 6 _ (by omega) (by omega) hsT.out).mono ?_
    rintro e w7 ⟨⟨b7, rfl⟩, hs7, hg7⟩
    have ho2T := own_ask' ho2T.out hsT.out hg7
    have ho3T := own_ask' ho3T.out hsT.out hg7
    have hB7 : Below w.heap.size w w7 := hBT.out.grown hg7 hBT.out.size (fun g h => by simp at h; omega)
    have z7 := hg7.size
    clear hsT
    cases b7
    · go_wp2
      go_ret2
      exact ⟨⟨_, _, rfl, ⟨p, hp, own_more ho2T (by omega)⟩, ⟨p, by first | omega | (rw [HQL.out]; omega), by first | exact own_more ho3T (by omega) | (rw [HQL.out]; exact own_more ho3T (by omega))⟩⟩, hB7⟩
    · have ho3T : w7.ownsRow w2.heap.size 92 4 (.slice A3 p.length c3) (p).length (bts p) := by first | exact ho3T | (rw [HQL.out]; exact ho3T)
      have HO2 := hid ho2T
      have HO3 := hid ho3T
      have hq7 : p.length ≤ 7 := by first | exact hp | (rw [HQL.out]; exact hp)
      clear ho2T ho3T
      go_wp2_with (at_builtin; refine push_bt HO3.out 0 false 0 false _ rfl _ _ rfl rfl rfl (by first | rfl | simp) (by omega) (by omega) ?_; intro v8 w8 ho8 hb8 hg8)
      have ho28 := own_low HO2.out hb8 (fun g h => HO2lt.out g h)
      go_ret2
      exact ⟨⟨_, _, rfl, ⟨p, hp, own_more ho28 (by omega)⟩, ⟨p ++ [((0, false), (0, false))], by rw [List.length_append, List.length_singleton]; omega, own_more ho8 (by omega)⟩⟩, (by repeat' (first | exact Below.refl _ _ | (with_reducible assumption) | (with_reducible refine Below.alloc ?_ ?_ _) | (with_reducible refine Below.setCell ?_ ?_ _) | (with_reducible refine Below.drew ?_) | (with_reducible refine below_drewN ?_ _) | (refine Below.trans ?_ (Below.mono (by assumption) ?_)) | (with_reducible exact Nat.le_refl _) | (with_reducible assumption) | (exact Below.size (by assumption)) | omega | go_size | (simp at *; omega)))⟩
end Go.Proofs.Ytjagejalchfhlaa
