/- Contracts of the functions that draw patterns (spec.l02Draw, l10Draw, A2Pattern). -/
import Derived.Test.YtlbhfjbbkkkldaaProg
import Derived.Test.YtlbhfjbbkkkldaaR
import Derived.Test.YtlbhfjbbkkkldaaDr
import Derived.Test.YtlbhfjbbkkkldaaT
import Derived.Test.YtlbhfjbbkkkldaaMo
import Derived.Deep.LoopGhost
import Derived.Deep.DeepCutAuto
namespace Go.Proofs.Ytlbhfjbbkkkldaa
open Go.RowKit
set_option linter.unusedVariables false

theorem own_bne {w : World} {b e s n g : Nat} {t : TypeId} {cs : Array Value} {v : Value} {xs : List Value} (h : w.ownsRow b e s v n xs) (hg : Bx w g t cs) (hne : e ≠ t) : v.ownBlock ≠ some g := by
  rcases h.2 with ⟨rfl, _⟩ | ⟨g', cap, cur, rfl, _, hh, _⟩
  · simp [Value.ownBlock]
  · intro he
    have : g' = g := by simpa [Value.ownBlock] using he
    subst this
    unfold Bx at hg
    rw [hh] at hg
    injection hg with hg
    injection hg with _ ht
    exact hne ht
/-- A list of numbers of the call's own stays while a source is asked. -/
theorem own_ask {w w' : World} {b n g m c K : Nat} {A : Option Addr} {zs : List Int} {v : Value} {xs : List Value} (h : w.ownsRow b 2 1 v n xs) (hs : Src w g A m c zs K) (hg : w.grownBy w' (some g)) : w'.ownsRow b 2 1 v n xs := by
  obtain ⟨_, _, hb, _⟩ := hs
  exact h.kept hg (.inr (own_bne h hb (by decide)))
theorem own_block {w : World} {base e sz n : Nat} {v : Value} {xs : List Value} (h : w.ownsRow base e sz v n xs) (hn : 0 < n) : ∃ g c, v = .slice (some ⟨g, 0, none⟩) n c ∧ base ≤ g ∧ g < w.heap.size := by
  rcases h.2 with ⟨_, h0⟩ | ⟨g, cap, cur, rfl, hge, hh, _⟩
  · omega
  · exact ⟨g, cap, rfl, hge, (Array.getElem?_eq_some_iff.1 hh).1⟩
theorem own_low {w w' : World} {B base e sz n : Nat} {v : Value} {xs : List Value} (h : w.ownsRow base e sz v n xs) (hb : Below B w w') (hlt : ∀ g, v.ownBlock = some g → g < B) : w'.ownsRow base e sz v n xs := by
  refine ⟨h.1, ?_⟩
  rcases h.2 with hn | ⟨g, cap, cur, rfl, hg, hh, r⟩
  · exact .inl hn
  · exact .inr ⟨g, cap, cur, rfl, hg, by rw [hb.block g (hlt g rfl)]; exact hh, r⟩
theorem grown_bl {w0 w w' : World} {B : Nat} {row : Option Nat} (h : w0.grownBy w row) (hb : Below B w w') (hB : w0.heap.size ≤ B) : w0.grownBy w' row :=
  ⟨hb.os.trans h.os, hb.tape.trans h.tape, hb.output.trans h.output, Nat.le_trans h.size hb.size, fun k hk hne => (hb.block k (by omega)).trans (h.block k hk hne)⟩
theorem ints_setD (xs : List Int) (i : Nat) (x : Int) : (ints xs).set i (.int .i64 x) = ints (xs.set i x) := by simp [ints, List.map_set]
theorem ints_at {xs : List Int} {i : Nat} (h : i < xs.length) : (ints xs)[i]? = some (.int .i64 (xs.getD i 0)) := by
  rw [ints, List.getElem?_map, List.getD_eq_getElem?_getD, List.getElem?_eq_getElem h]; rfl
/-- A pattern of the call's own. -/
def OkRow (B : Nat) (w : World) (v : Value) : Prop := ∃ p, okP p = true ∧ w.ownsRow B 2 1 v p.length (ints p)
/-- A list of the call's own. -/
def AnyRow (B : Nat) (w : World) (v : Value) : Prop := ∃ p : List Int, p.length ≤ 13 ∧ w.ownsRow B 2 1 v p.length (ints p)
theorem OkRow.any {B : Nat} {w : World} {v : Value} (h : OkRow B w v) : AnyRow B w v := by
  obtain ⟨p, hp, ho⟩ := h
  exact ⟨p, by have := (thOk_iff (okP_th hp)).2.2; omega, ho⟩

theorem one_src (g : Nat) (A : Option Addr) (n c K : Nat) (xs : List Int) (k : Int) (w : World) (hK : K ≤ 549755813888) (hk : k ≤ 65536) (h : Src w g A n c xs K) :
    Calls Try.prog 77 #[.pointer (some ⟨g, 0, none⟩), .int .i64 k] w fun e w' => (∃ b : Bool, e = .returned (.bool b)) ∧ Src w' g A n c xs (K + 2) ∧ w.grownBy w' (some g) := by
  have hP := hid (pick_src g A n c K xs k w hK hk h)
  clear h
  go_enter Try.func77, Try.ntmps77
  go_wp2_with fail
  refine hP.out.mono ?_
  rintro e w1 ⟨⟨x, x0, x1, rfl⟩, hs1, hg1⟩
  go_wp2
  go_ret
  exact ⟨⟨_, rfl⟩, hs1, hg1⟩
set_option maxHeartbeats 1000000 in
theorem l02Draw_src (g : Nat) (A : Option Addr) (n c K : Nat) (xs : List Int) (most : Int) (w : World) (hK : K ≤ 1000000) (hm1 : 1 ≤ most) (hm2 : most ≤ 12) (h : Src w g A n c xs K) :
    Calls Try.prog 148 #[.pointer (some ⟨g, 0, none⟩), .int .i64 most] w fun e w' => ∃ v, e = .returned v ∧ OkRow w.heap.size w' v ∧ Src w' g A n c xs (K + 500) ∧ w.grownBy w' (some g) := by
  have hgl := h.lt
  have hP := hid (pick_src g A n c K xs most w (by omega) (by omega) h)
  clear h
  go_enter Try.func148, Try.ntmps148
  go_wp2_with fail
  refine hP.out.mono ?_
  rintro e w1 ⟨⟨m, m0, m1, rfl⟩, hs1, hg1⟩
  obtain ⟨N, hN⟩ : ∃ N : Nat, 1 + m = (N : Int) := ⟨(1 + m).toNat, by omega⟩
  have hN1 : 1 ≤ N := by omega
  have hN2 : N ≤ 12 := by omega
  have hz1 := hg1.size
  clear hP m1 m0
  go_wp2
  clear hN
  have ho0 : (w1.alloc (Obj.cells #[] 2)).ownsRow w.heap.size 2 1 (.slice (some ⟨w1.heap.size, 0, none⟩) 0 0) ([] : List Int).length (ints []) := World.ownsRow_lit (base := w.heap.size) w1 #[] (e := 2) (size := 1) 0 hz1 (by simp [maxLen]) rfl
  have hst : Src (w1.alloc (Obj.cells #[] 2)) g A n c xs (K + 2) := hs1.below (B := w1.heap.size) ((Below.refl _ _).alloc (Nat.le_refl _) _) (by omega)
  have hgt : w.grownBy (w1.alloc (Obj.cells #[] 2)) (some g) := grown_bl hg1 (B := w1.heap.size) ((Below.refl _ _).alloc (Nat.le_refl _) _) hz1
  clear hs1 hg1
  go_loopw [6, 7] (fun v i wr => ∃ (k : Nat) (L : List Int) (K2 : Nat), i = .int .i64 k ∧ k ≤ N ∧ K2 ≤ K + 2 + 2 * k ∧ Hid (Perm k L) ∧ L.length ≤ 12 ∧ Src wr g A n c xs K2 ∧ wr.ownsRow w.heap.size 2 1 v L.length (ints L) ∧ w.grownBy wr (some g)) (fun _ i _ => N - (intOf i).toNat)
  case atStart => exact ⟨0, [], K + 2, rfl, by omega, by omega, Perm.nil, by simp, hst, ho0, hgt⟩
  case round =>
    clear ho0 hst hgt
    obtain ⟨k, L, K2, rfl, hk, hK2, hP, hL, hs, ho, hg⟩ := hrel
    have hz := hg.size
    have hlk := hs.lt
    by_cases hlt : k < N
    · have hLk := hid hP.out.1
      go_wp2_with fail
      refine (pick_src g A n c K2 xs ((k : Int) + 1) wr (by omega) (by omega) hs).mono ?_
      rintro e w3 ⟨⟨x, x0, x1, rfl⟩, hs3, hg3⟩
      obtain ⟨a, rfl⟩ := Int.eq_ofNat_of_zero_le x0
      have ha : a ≤ k := by omega
      have HPN : Hid (Perm (k + 1) (swapIn L k a)) := hP.out.swapIn ha
      have ho3 := own_ask ho hs hg3
      have hz3 := hg3.size
      have hg03 := grown_trans hg hg3
      have HLL : Hid ((L ++ [(k : Int)]).length = k + 1) := by show _ = _; rw [List.length_append, hLk.out]; rfl
      obtain ⟨y, hy⟩ : ∃ y, (L ++ [(k : Int)]).getD a 0 = y := ⟨_, rfl⟩
      have HSW : Hid (((L ++ [(k : Int)]).set k y).set a (k : Int) = swapIn L k a) := by show _ = _; rw [← hy]; rfl
      have HY := hid hy
      clear hs ho hg hg3 x1 hP hy
      go_wp2_with (
        at_builtin
        refine push_int ho3 (k : Int) _ Try.underlying43 inf_int rfl rfl _ _ rfl rfl rfl (by omega) (by omega) ?_
        intro v4 w4 ho4 hb4 hg4
        rw [HLL.out] at ho4
        obtain ⟨g4, c4, rfl, hge4, hgl4⟩ := own_block ho4 (by omega)
        have hs4 := hs3.below hb4 hgl
        have hgg4 := grown_bl hg03 hb4 (Nat.le_refl _)
        have hcA : w4.cell? ⟨g4, a, none⟩ = some (.int .i64 y) := by
          rw [ho4.cellAt a (by omega), ← HY.out]
          exact ints_at (by rw [HLL.out]; omega)
        obtain ⟨uK, hcK⟩ : ∃ u, w4.cell? ⟨g4, k, none⟩ = some u := by
          rw [ho4.cellAt k (by omega)]
          exact ⟨_, ints_at (by rw [HLL.out]; omega)⟩
        have hfK := ho4.frozenAt k
        obtain ⟨ho5, hg5⟩ := ho4.stored k (.int .i64 y)
        rw [ints_setD] at ho5
        obtain ⟨uA, hcA5⟩ : ∃ u, (w4.setCell ⟨g4, k, none⟩ (.int .i64 y)).cell? ⟨g4, a, none⟩ = some u := by
          rw [ho5.cellAt a (by omega)]
          exact ⟨_, ints_at (by rw [List.length_set, HLL.out]; omega)⟩
        have hfA5 := ho5.frozenAt a
        obtain ⟨ho6, hg6⟩ := ho5.stored a (.int .i64 (k : Int))
        rw [ints_setD, HSW.out] at ho6
        have HO6 := hid ho6
        clear ho3 ho4 ho5 ho6 hg4 hg5 hg6 hs3 hg03)
      have hb5 : Below w.heap.size w4 ((w4.setCell ⟨g4, k, none⟩ (.int .i64 y)).setCell ⟨g4, a, none⟩ (.int .i64 (k : Int))) := (by repeat' (first | exact Below.refl _ _ | (with_reducible assumption) | (with_reducible refine Below.alloc ?_ ?_ _) | (with_reducible refine Below.setCell ?_ ?_ _) | (with_reducible refine Below.drew ?_) | (with_reducible refine below_drewN ?_ _) | (refine Below.trans ?_ (Below.mono (by assumption) ?_)) | (with_reducible exact Nat.le_refl _) | (with_reducible assumption) | (exact Below.size (by assumption)) | omega | go_size | (simp at *; omega)))
      have hll := swapIn_len (a := a) hLk.out
      go_roundw
      case rel => exact ⟨k + 1, swapIn L k a, K2 + 2, by go_num, by omega, by omega, HPN, by omega, hs4.below hb5 hgl, by rw [hll]; exact HO6.out, grown_bl hgg4 hb5 (Nat.le_refl _)⟩
      case measure => simp [intOf]; omega
    · obtain rfl : k = N := by omega
      have hLk := hid hP.out.1
      rw [hLk.out] at ho
      obtain ⟨g4, c4, rfl, hge4, hgl4⟩ := own_block ho (by omega)
      obtain ⟨wi, rfl⟩ : ∃ wi : World, wi = wr := ⟨_, rfl⟩
      go_wp2
      go_loopw [9, 10] (fun v i wx => Hid (∃ (j : Nat) (out : List Int) (K3 : Nat), i = .int .i64 j ∧ j ≤ k ∧ K3 ≤ K + 30 + 30 * j ∧ Hid (LandsAs k L out) ∧ Hid (out.length = j) ∧ out.length ≤ 12 ∧ Src wx g A n c xs K3 ∧ wx.ownsRow wi.heap.size 2 1 v out.length (ints out) ∧ wx.ownsRow w.heap.size 2 1 (.slice (some ⟨g4, 0, none⟩) k c4) k (ints L) ∧ w.grownBy wx (some g) ∧ wi.heap.size ≤ wx.heap.size)) (fun _ i _ => k - (intOf i).toNat)
      case atStart => exact hid ⟨0, [], K2, rfl, by omega, by omega, LandsAs.nil _ _, rfl, by simp, hs.below (B := wi.heap.size) ((Below.refl _ _).alloc (Nat.le_refl _) _) hlk, World.ownsRow_lit (base := wi.heap.size) wi #[] (e := 2) (size := 1) 0 (Nat.le_refl _) (by simp [maxLen]) rfl, ho.alloc _, grown_bl hg (B := wi.heap.size) ((Below.refl _ _).alloc (Nat.le_refl _) _) hz, by simp⟩
      case round =>
        clear hs ho hg
        obtain ⟨j, out, K3, rfl, hj, hK3, hLA, hol, hol2, hs, ho9, hoL, hg, hz9⟩ := hrel.out
        by_cases hlt : j < k
        · obtain ⟨l0, l1⟩ := hP.out.2.1 j hlt
          obtain ⟨l, hl⟩ : ∃ l, L.getD j 0 = l := ⟨_, rfl⟩
          rw [hl] at l0 l1
          have hcell : wr.cell? ⟨g4, j, none⟩ = some (.int .i64 l) := by
            rw [hoL.cellAt j (by omega), ← hl]
            exact ints_at (by rw [hLk.out]; exact hlt)
          obtain ⟨T0, hT0⟩ : ∃ T0, (l - (j : Int)) % (k : Int) = T0 := ⟨_, rfl⟩
          have hT1 : 0 ≤ T0 := by rw [← hT0]; exact Int.emod_nonneg _ (by omega)
          have hT2 : T0 < (k : Int) := by rw [← hT0]; exact Int.emod_lt_of_pos _ (by omega)
          have HLA := hid (fun (t : Int) (r : Nat) (h0 : 0 ≤ t) (h1 : t ≤ 11) (e : t = T0 + (r : Int) * (k : Int)) => show LandsAs k L (out ++ [t]) from hLA.out.snoc h0 (by omega) (by
            rw [hol.out, hl]
            refine land_mod (n := k) (r : Int) l0 (by omega) ?_
            rw [e, ← hT0]))
          have hMod := hid (l02Mod_any (l - (j : Int)) (k : Int) wr (by omega) (by omega))
          rw [hT0] at hMod
          clear hl hT0 hLA
          go_wp2_with (go_at_call 166; refine (hMod.out).mono ?_; rintro e w' ⟨rfl, rfl⟩)
          go_loopw [11] (fun t wy => Hid (∃ (tt : Int) (r K4 : Nat), t = .int .i64 tt ∧ Hid (tt = T0 + (r : Int) * (k : Int)) ∧ 0 ≤ tt ∧ tt ≤ 11 ∧ (K4 : Int) ≤ (K3 : Int) + 2 * tt ∧ Src wy g A n c xs K4 ∧ wy.ownsRow wi.heap.size 2 1 u9 out.length (ints out) ∧ wy.ownsRow w.heap.size 2 1 (.slice (some ⟨g4, 0, none⟩) k c4) k (ints L) ∧ w.grownBy wy (some g) ∧ wi.heap.size ≤ wy.heap.size)) (fun t _ => (12 - intOf t).toNat)
          case atStart => exact hid ⟨T0, 0, K3, rfl, by show _ = _; simp, hT1, by omega, by omega, hs, ho9, hoL, hg, hz9⟩
          case round =>
            clear hs ho9 hoL hg hz9 hcell
            obtain ⟨tt, r, K4, rfl, htr, ht0, ht1, hK4, hs, ho9, hoL, hg, hz9⟩ := hrel.out
            by_cases ht : tt + (k : Int) ≤ 9
            · go_wp2_with fail
              refine (one_src g A n c K4 xs 2 _ (by omega) (by omega) hs).mono ?_
              rintro e w3 ⟨⟨b, rfl⟩, hs3, hg3⟩
              have ho9' := own_ask ho9 hs hg3
              have hoL' := own_ask hoL hs hg3
              have hgg := grown_trans hg hg3
              have hz3 := hg3.size
              cases b
              · clear hs ho9 hoL hg hg3
                go_wp2_with (
                  at_builtin
                  refine push_int ho9' tt _ Try.underlying43 inf_int rfl rfl _ _ rfl rfl rfl (by omega) (by omega) ?_
                  intro v4 w4 ho4 hb4 hg4
                  have hs4 := Src.below hs3 hb4 (by omega)
                  have hoL4 := own_low hoL' hb4 (fun g h => by have h : g4 = g := (by simpa [Value.ownBlock] using h); omega)
                  have hgg4 := grown_bl hgg hb4 (by omega)
                  have hz4 := hb4.size)
                go_wp2
                go_roundw
                case rel => exact hid ⟨j + 1, out ++ [tt], K4 + 2, by go_num, by omega, by omega, HLA.out tt r ht0 ht1 htr.out, by show _ = _; rw [List.length_append, hol.out]; rfl, by have := hol.out; rw [List.length_append, List.length_singleton]; omega, hs4, ho4, hoL4, hgg4, by omega⟩
                case measure => simp [intOf]; omega
              · have HTR : Hid (tt + (k : Int) = T0 + ((r + 1 : Nat) : Int) * (k : Int)) := by
                  show _ = _
                  rw [htr.out, show ((r + 1 : Nat) : Int) = (r : Int) + 1 from rfl, Int.add_mul, Int.one_mul]; omega
                clear hs ho9 hoL hg hg3
                go_wp2
                go_roundw
                case rel => exact hid ⟨tt + (k : Int), r + 1, K4 + 2, by go_num, HTR, by omega, by omega, by omega, hs3, ho9', hoL', hgg, by omega⟩
                case measure => simp [intOf]; omega
            · skip
              go_wp2_with (
                at_builtin
                refine push_int ho9 tt _ Try.underlying43 inf_int rfl rfl _ _ rfl rfl rfl (by omega) (by omega) ?_
                intro v4 w4 ho4 hb4 hg4
                have hs4 := Src.below hs hb4 (by omega)
                have hoL4 := own_low hoL hb4 (fun g h => by have h : g4 = g := (by simpa [Value.ownBlock] using h); omega)
                have hgg4 := grown_bl hg hb4 (by omega)
                have hz4 := hb4.size)
              go_roundw
              case rel => exact hid ⟨j + 1, out ++ [tt], K4, by go_num, by omega, by omega, HLA.out tt r ht0 ht1 htr.out, by show _ = _; rw [List.length_append, hol.out]; rfl, by have := hol.out; rw [List.length_append, List.length_singleton]; omega, hs4, ho4, hoL4, hgg4, by omega⟩
              case measure => simp [intOf]; omega
        · have hjN : j = k := by omega
          have hok := okP_of_lands hP.out (by omega) (by omega) (by rw [hol.out, hjN]) hLA.out
          have hzz := hg.size
          go_wp2
          go_ret
          exact ⟨_, rfl, ⟨out, hok, own_more ho9 hz⟩, hs.more (by omega), hg⟩
theorem among_src (g : Nat) (A : Option Addr) (n c K : Nat) (xs : List Int) (b off m c2 : Nat) (w : World) (hK : K ≤ 1000000) (hb : b ≠ g) (hbl : b < w.heap.size) (hm1 : 1 ≤ m) (hm2 : m ≤ 100) (hc : ∀ i, i < m → ∃ y, w.cell? ⟨b, off + i, none⟩ = some (.int .i64 y)) (h : Src w g A n c xs K) :
    Calls Try.prog 120 #[.pointer (some ⟨g, 0, none⟩), .slice (some ⟨b, off, none⟩) m c2] w fun e w' => (∃ y, e = .returned (.int .i64 y)) ∧ Src w' g A n c xs (K + 2) ∧ w.grownBy w' (some g) := by
  have hP := hid (pick_src g A n c K xs (m : Int) w (by omega) (by omega) h)
  have HC := hid hc
  clear h hc
  go_enter Try.func120, Try.ntmps120
  go_wp2_with fail
  refine hP.out.mono ?_
  rintro e w1 ⟨⟨x, x0, x1, rfl⟩, hs1, hg1⟩
  obtain ⟨i, rfl⟩ := Int.eq_ofNat_of_zero_le x0
  have hi : i < m := by omega
  obtain ⟨y, hy⟩ := HC.out i hi
  have hcell : w1.cell? ⟨b, off + i, none⟩ = some (.int .i64 y) := (World.cell?_of_block (hg1.block b hbl (by simp; exact hb))).trans hy
  clear x1
  go_wp2
  go_ret
  exact ⟨⟨y, rfl⟩, hs1, hg1⟩
theorem text_src (g : Nat) (A : Option Addr) (n c K : Nat) (xs : List Int) (b off m c2 : Nat) (w : World) (hK : K ≤ 1000000) (hb : b ≠ g) (hbl : b < w.heap.size) (hm1 : 1 ≤ m) (hm2 : m ≤ 100) (hc : ∀ i, i < m → ∃ y, y.size ≤ 12 ∧ w.cell? ⟨b, off + i, none⟩ = some (.string y)) (h : Src w g A n c xs K) :
    Calls Try.prog 75 #[.pointer (some ⟨g, 0, none⟩), .slice (some ⟨b, off, none⟩) m c2] w fun e w' => (∃ y, y.size ≤ 12 ∧ e = .returned (.string y)) ∧ Src w' g A n c xs (K + 2) ∧ w.grownBy w' (some g) := by
  have hP := hid (pick_src g A n c K xs (m : Int) w (by omega) (by omega) h)
  have HC := hid hc
  clear h hc
  go_enter Try.func75, Try.ntmps75
  go_wp2_with fail
  refine hP.out.mono ?_
  rintro e w1 ⟨⟨x, x0, x1, rfl⟩, hs1, hg1⟩
  obtain ⟨i, rfl⟩ := Int.eq_ofNat_of_zero_le x0
  have hi : i < m := by omega
  obtain ⟨y, hys, hy⟩ := HC.out i hi
  have hcell : w1.cell? ⟨b, off + i, none⟩ = some (.string y) := (World.cell?_of_block (hg1.block b hbl (by simp; exact hb))).trans hy
  clear x1
  go_wp2
  go_ret
  exact ⟨⟨y, hys, rfl⟩, hs1, hg1⟩
def rDig (c : Int) : Int := if 48 ≤ c ∧ c ≤ 57 then c - 48 else if 97 ≤ c ∧ c ≤ 102 then c - 87 else -1
def rdDig (l : List UInt8) : List Int := l.map fun b => rDig (b.toNat : Int)
theorem rdDig_len (s : ByteArray) : (rdDig s.data.toList).length = s.size := by simp [rdDig]
theorem byte_drop (s : ByteArray) (k : Nat) (h : k < s.size) : s.data.toList.drop k = s[k] :: s.data.toList.drop (k + 1) := by
  rw [List.drop_eq_getElem_cons (by simpa using h)]; rfl
theorem l02Digit_any (c : Int) (c0 : 0 ≤ c) (c1 : c ≤ 255) (w : World) : Calls Try.prog 216 #[.int .u8 c] w fun e w' => e = .returned (.int .i64 (rDig c)) ∧ w = w' := by
  by_cases h1 : 48 ≤ c
  · by_cases h2 : c ≤ 57
    · have hd : Hid (rDig c = c - 48) := by show _ = _; simp [rDig, h1, h2]
      go_enter Try.func216, Try.ntmps216
      go_wp2
      go_ret
      exact ⟨ret_int hd.out.symm, rfl⟩
    · by_cases h3 : 97 ≤ c
      · by_cases h4 : c ≤ 102
        · have hd : Hid (rDig c = c - 87) := by show _ = _; simp [rDig, h2, h3, h4]
          go_enter Try.func216, Try.ntmps216
          go_wp2
          go_ret
          exact ⟨ret_int (by rw [hd.out]; omega), rfl⟩
        · have hd : Hid (rDig c = -1) := by show _ = _; simp [rDig, h2, h4]
          go_enter Try.func216, Try.ntmps216
          go_wp2
          go_ret
          exact ⟨ret_int hd.out.symm, rfl⟩
      · have hd : Hid (rDig c = -1) := by show _ = _; simp [rDig, h2, h3]
        go_enter Try.func216, Try.ntmps216
        go_wp2
        go_ret
        exact ⟨ret_int hd.out.symm, rfl⟩
  · have h3 : ¬ 97 ≤ c := by omega
    have hd : Hid (rDig c = -1) := by show _ = _; simp [rDig, h1, h3]
    go_enter Try.func216, Try.ntmps216
    go_wp2
    go_ret
    exact ⟨ret_int hd.out.symm, rfl⟩
theorem l02Read_any (s : ByteArray) (hs : s.size ≤ 1099511627776) (w : World) :
    Calls Try.prog 200 #[.string s] w fun e w' => ∃ v, e = .returned v ∧ w'.ownsRow w.heap.size 2 1 v (rdDig s.data.toList).length (ints (rdDig s.data.toList)) ∧ Below w.heap.size w w' := by
  have hst : Hid (([] : List Int) ++ rdDig (s.data.toList.drop 0) = rdDig s.data.toList) := rfl
  have hll := rdDig_len s
  generalize rdDig s.data.toList = R at *
  go_enter Try.func200, Try.ntmps200
  go_wp2
  go_loopw [3, 4] (fun v i wr => Hid (∃ (k : Nat) (out : List Int), k ≤ s.size ∧ i = .int .i64 k ∧ out.length ≤ s.size ∧ Hid (out ++ rdDig (s.data.toList.drop k) = R) ∧ wr.ownsRow w.heap.size 2 1 v out.length (ints out) ∧ Below w.heap.size w wr)) (fun _ i _ => s.size - (intOf i).toNat)
  case atStart => exact hid ⟨0, [], Nat.zero_le _, rfl, by simp, hst, World.ownsRow_lit _ _ 0 (Nat.le_refl _) (by simp [maxLen]) rfl, (by repeat' (first | exact Below.refl _ _ | (with_reducible assumption) | (with_reducible refine Below.alloc ?_ ?_ _) | (with_reducible refine Below.setCell ?_ ?_ _) | (with_reducible refine Below.drew ?_) | (with_reducible refine below_drewN ?_ _) | (refine Below.trans ?_ (Below.mono (by assumption) ?_)) | (with_reducible exact Nat.le_refl _) | (with_reducible assumption) | (exact Below.size (by assumption)) | omega | go_size | (simp at *; omega)))⟩
  case round =>
    obtain ⟨k, out, hk, rfl, hol, he, ho, hb0⟩ := hrel.out
    have hB := hb0.size
    have hRl : Hid (out.length + (s.size - k) = R.length) := by
      show _ = _
      rw [← he.out]; simp [rdDig]
    by_cases hlt : k < s.size
    · have HZ : Hid ((out ++ [rDig ((s[k]'hlt).toNat : Int)]) ++ rdDig (s.data.toList.drop (k + 1)) = R) := by
        show _ = _
        rw [← he.out, byte_drop s k hlt]; simp [rdDig]
      have hby : ((s[k]'hlt).toNat : Int) ≤ 255 := by have := (s[k]'hlt).toNat_lt; omega
      have hby0 : 0 ≤ ((s[k]'hlt).toNat : Int) := by omega
      have hD := hid (l02Digit_any ((s[k]'hlt).toNat : Int) hby0 hby wr)
      have hol2 : out.length + 1 ≤ s.size := by have := hRl.out; omega
      generalize rDig ((s[k]'hlt).toNat : Int) = d at *
      clear he hst hRl
      go_wp2_with (first | (go_at_call 216; refine (hD.out).mono ?_; rintro e w' ⟨rfl, rfl⟩) | (at_builtin; refine push_int ho (d) _ Try.underlying43 inf_int rfl rfl _ _ rfl rfl rfl (by omega) (by omega) ?_; intro v1 w1 ho1 hb1 hg1))
      go_roundw
      case rel => exact hid ⟨k + 1, out ++ [d], by omega, by go_num, by rw [List.length_append]; exact hol2, HZ, ho1, (by repeat' (first | exact Below.refl _ _ | (with_reducible assumption) | (with_reducible refine Below.alloc ?_ ?_ _) | (with_reducible refine Below.setCell ?_ ?_ _) | (with_reducible refine Below.drew ?_) | (with_reducible refine below_drewN ?_ _) | (refine Below.trans ?_ (Below.mono (by assumption) ?_)) | (with_reducible exact Nat.le_refl _) | (with_reducible assumption) | (exact Below.size (by assumption)) | omega | go_size | (simp at *; omega)))⟩
      case measure => simp [intOf]; omega
    · have hkk : k = s.size := by omega
      have hR := he.out
      rw [List.drop_eq_nil_of_le (by simp; omega)] at hR
      simp only [rdDig, List.map_nil, List.append_nil] at hR
      subst hR
      go_wp2
      go_ret
      exact ⟨_, rfl, ho, (by repeat' (first | exact Below.refl _ _ | (with_reducible assumption) | (with_reducible refine Below.alloc ?_ ?_ _) | (with_reducible refine Below.setCell ?_ ?_ _) | (with_reducible refine Below.drew ?_) | (with_reducible refine below_drewN ?_ _) | (refine Below.trans ?_ (Below.mono (by assumption) ?_)) | (with_reducible exact Nat.le_refl _) | (with_reducible assumption) | (exact Below.size (by assumption)) | omega | go_size | (simp at *; omega)))⟩
theorem four_any (w : World) (x : Int) (t : TypeId) : ∀ i, i < 4 → ∃ y : Int, (w.alloc (Obj.cells #[.int .i64 (-1), .int .i64 15, .int .i64 16, .int .i64 x] t)).cell? ⟨w.heap.size, 0 + i, none⟩ = some (.int .i64 y) := by
  intro i hi
  rw [World.cell?_alloc_at _ _ _ _ rfl]
  match i, hi with
  | 0, _ => exact ⟨_, rfl⟩
  | 1, _ => exact ⟨_, rfl⟩
  | 2, _ => exact ⟨_, rfl⟩
  | 3, _ => exact ⟨_, rfl⟩
set_option maxHeartbeats 1000000 in
theorem l02Bent_src (g : Nat) (A : Option Addr) (n c K : Nat) (xs : List Int) (w : World) (hK : K ≤ 1000) (h : Src w g A n c xs K) :
    Calls Try.prog 94 #[.pointer (some ⟨g, 0, none⟩)] w fun e w' => ∃ v, e = .returned v ∧ AnyRow w.heap.size w' v ∧ Src w' g A n c xs (K + 600) ∧ w.grownBy w' (some g) := by
  have hgl := h.lt
  have hP := hid (l02Draw_src g A n c K xs 7 w (by omega) (by omega) (by omega) h)
  clear h
  go_enter Try.func94, Try.ntmps94
  go_wp2_with fail
  refine hP.out.mono ?_
  rintro e w1 ⟨v1, rfl, ⟨p, hp, ho1⟩, hs1, hg1⟩
  obtain ⟨_, hp1, hp2⟩ := thOk_iff (okP_th hp)
  obtain ⟨gp, cp, rfl, hgp, hgp1⟩ := own_block ho1 (by omega)
  have hz1 := hg1.size
  have HBD := hid (fun i => getD_bd (okP_th hp) i)
  clear hP hp
  go_wp2_with fail
  refine (pick_src g A n c (K + 500) xs (p.length : Int) w1 (by omega) (by omega) hs1).mono ?_
  rintro e w2 ⟨⟨x, x0, x1, rfl⟩, hs2, hg2⟩
  obtain ⟨a, rfl⟩ := Int.eq_ofNat_of_zero_le x0
  have ha : a < p.length := by omega
  have ho2 := own_ask ho1 hs1 hg2
  have hgg2 := grown_trans hg1 hg2
  have hz2 := hg2.size
  clear x1 hs1 hg1 hg2 ho1
  go_wp2_with fail
  refine (pick_src g A n c (K + 502) xs 14 w2 (by omega) (by omega) hs2).mono ?_
  rintro e w3 ⟨⟨y, y0, y1, rfl⟩, hs3, hg3⟩
  have ho3 := own_ask ho2 hs2 hg3
  have hgg3 := grown_trans hgg2 hg3
  have hz3 := hg3.size
  clear hs2 hgg2 hg3 ho2
  by_cases c0 : y = 0
  · obtain ⟨q, hq⟩ : ∃ q, p.getD a 0 = q := ⟨_, rfl⟩
    have hcell : w3.cell? ⟨gp, a, none⟩ = some (.int .i64 q) := by
      rw [ho3.cellAt a (by omega), ← hq]
      exact ints_at ha
    have hqb := HBD.out a
    rw [hq] at hqb
    obtain ⟨q0, q1⟩ := hqb
    subst c0
    clear hq
    go_wp2_with fail
    have hs3a : Src (w3.alloc (Obj.cells #[.int .i64 (-1), .int .i64 15, .int .i64 16, .int .i64 (q + 1)] 2)) g A n c xs (K + 504) := hs3.below (B := w3.heap.size) ((Below.refl _ _).alloc (Nat.le_refl _) _) (by omega)
    have hg3a : w.grownBy (w3.alloc (Obj.cells #[.int .i64 (-1), .int .i64 15, .int .i64 16, .int .i64 (q + 1)] 2)) (some g) := grown_bl hgg3 (B := w3.heap.size) ((Below.refl _ _).alloc (Nat.le_refl _) _) (by omega)
    have ho3a := ho3.alloc (Obj.cells #[.int .i64 (-1), .int .i64 15, .int .i64 16, .int .i64 (q + 1)] 2)
    refine (among_src g A n c (K + 504) xs w3.heap.size 0 4 4 _ (by omega) (by omega) (by simp) (by omega) (by omega) (four_any w3 (q + 1) _) hs3a).mono ?_
    rintro e w4 ⟨⟨z, rfl⟩, hs4, hg4⟩
    have ho4 := own_ask ho3a hs3a hg4
    have hgg4 := grown_trans hg3a hg4
    have hz4 := hg4.size
    obtain ⟨u4, hc4⟩ : ∃ u, w4.cell? ⟨gp, a, none⟩ = some u := by
      rw [ho4.cellAt a (by omega)]
      exact ⟨_, ints_at ha⟩
    have hf4 := ho4.frozenAt a
    obtain ⟨ho5, hg5⟩ := ho4.stored a (.int .i64 z)
    rw [ints_setD] at ho5
    have hb5 : Below w.heap.size w4 (w4.setCell ⟨gp, a, none⟩ (.int .i64 z)) := (by repeat' (first | exact Below.refl _ _ | (with_reducible assumption) | (with_reducible refine Below.alloc ?_ ?_ _) | (with_reducible refine Below.setCell ?_ ?_ _) | (with_reducible refine Below.drew ?_) | (with_reducible refine below_drewN ?_ _) | (refine Below.trans ?_ (Below.mono (by assumption) ?_)) | (with_reducible exact Nat.le_refl _) | (with_reducible assumption) | (exact Below.size (by assumption)) | omega | go_size | (simp at *; omega)))
    have HO5 := hid ho5
    clear ho3 ho3a hs3a hg3a hg4 hcell ho4 ho5 hg5
    go_wp2
    go_ret
    exact ⟨_, rfl, ⟨p.set a z, by rw [List.length_set]; omega, by rw [List.length_set]; exact HO5.out⟩, (hs4.below hb5 hgl).more (by omega), grown_bl hgg4 hb5 (Nat.le_refl _)⟩
  · by_cases c1 : y = 1
    · subst c1
      go_wp2_with fail
      refine (pick_src g A n c (K + 504) xs 10 w3 (by omega) (by omega) hs3).mono ?_
      rintro e w4 ⟨⟨z, z0, z1, rfl⟩, hs4, hg4⟩
      have ho4 := own_ask ho3 hs3 hg4
      have hgg4 := grown_trans hgg3 hg4
      have hz4 := hg4.size
      obtain ⟨u4, hc4⟩ : ∃ u, w4.cell? ⟨gp, a, none⟩ = some u := by
        rw [ho4.cellAt a (by omega)]
        exact ⟨_, ints_at ha⟩
      have hf4 := ho4.frozenAt a
      obtain ⟨ho5, hg5⟩ := ho4.stored a (.int .i64 z)
      rw [ints_setD] at ho5
      have hb5 : Below w.heap.size w4 (w4.setCell ⟨gp, a, none⟩ (.int .i64 z)) := (by repeat' (first | exact Below.refl _ _ | (with_reducible assumption) | (with_reducible refine Below.alloc ?_ ?_ _) | (with_reducible refine Below.setCell ?_ ?_ _) | (with_reducible refine Below.drew ?_) | (with_reducible refine below_drewN ?_ _) | (refine Below.trans ?_ (Below.mono (by assumption) ?_)) | (with_reducible exact Nat.le_refl _) | (with_reducible assumption) | (exact Below.size (by assumption)) | omega | go_size | (simp at *; omega)))
      have HO5 := hid ho5
      clear ho3 hs3 hgg3 hg4 ho4 ho5 hg5
      go_wp2
      go_ret
      exact ⟨_, rfl, ⟨p.set a z, by rw [List.length_set]; omega, by rw [List.length_set]; exact HO5.out⟩, (hs4.below hb5 hgl).more (by omega), grown_bl hgg4 hb5 (Nat.le_refl _)⟩
    · by_cases c2 : y = 2
      · subst c2
        go_wp2
        go_ret
        exact ⟨_, rfl, ⟨[], by simp, World.ownsRow_lit (base := w.heap.size) w3 #[] (e := 2) (size := 1) 0 (by omega) (by simp [maxLen]) rfl⟩, (hs3.below (B := w3.heap.size) ((Below.refl _ _).alloc (Nat.le_refl _) _) (by omega)).more (by omega), grown_bl hgg3 (B := w3.heap.size) ((Below.refl _ _).alloc (Nat.le_refl _) _) (by omega)⟩
      · by_cases c3 : y = 3
        · subst c3
          go_wp2_with fail
          have hs3a : Src (w3.alloc (Obj.cells #[] 2)) g A n c xs (K + 504) := hs3.below (B := w3.heap.size) ((Below.refl _ _).alloc (Nat.le_refl _) _) (by omega)
          have hg3a : w.grownBy (w3.alloc (Obj.cells #[] 2)) (some g) := grown_bl hgg3 (B := w3.heap.size) ((Below.refl _ _).alloc (Nat.le_refl _) _) (by omega)
          have ho3a : (w3.alloc (Obj.cells #[] 2)).ownsRow w.heap.size 2 1 (.slice (some ⟨w3.heap.size, 0, none⟩) 0 0) ([] : List Int).length (ints []) := World.ownsRow_lit (base := w.heap.size) w3 #[] (e := 2) (size := 1) 0 (by omega) (by simp [maxLen]) rfl
          refine (pick_src g A n c (K + 504) xs 2 _ (by omega) (by omega) hs3a).mono ?_
          rintro e w4 ⟨⟨z, z0, z1, rfl⟩, hs4, hg4⟩
          have ho4 := own_ask ho3a hs3a hg4
          have hgg4 := grown_trans hg3a hg4
          have hz4 := hg4.size
          obtain ⟨N, hN⟩ : ∃ N : Nat, 12 + z = (N : Int) := ⟨(12 + z).toNat, by omega⟩
          have hN2 : N ≤ 13 := by omega
          clear ho3 hs3 hgg3 hg4 ho3a hs3a hg3a z0 z1
          go_wp2
          clear hN
          go_loopw [3] (fun v wr => Hid (∃ out : List Int, out.length ≤ N ∧ Src wr g A n c xs (K + 506) ∧ wr.ownsRow w.heap.size 2 1 v out.length (ints out) ∧ w.grownBy wr (some g))) (fun v _ => match v with | .slice _ m _ => N - m | _ => 0)
          case atStart => exact hid ⟨[], by simp, hs4, ho4, hgg4⟩
          case round =>
            obtain ⟨out, hol, hs, ho, hg⟩ := hrel.out
            obtain ⟨A3, c3, rfl⟩ := own_form ho
            have hz := hg.size
            clear hs4 ho4 hgg4
            by_cases hlt : out.length < N
            · go_wp2_with (
                at_builtin
                refine push_int ho 3 _ Try.underlying43 inf_int rfl rfl _ _ rfl rfl rfl (by omega) (by omega) ?_
                intro v5 w5 ho5 hb5 hg5
                have hln : (out ++ [3]).length = out.length + 1 := List.length_append
                rw [hln] at ho5
                obtain ⟨A5, c5, rfl⟩ := own_form ho5
                have hs5 := hs.below hb5 hgl
                have hgg5 := grown_bl hg hb5 (Nat.le_refl _)
                clear hln)
              go_roundw
              case rel => exact hid ⟨out ++ [3], by rw [List.length_append]; exact hlt, hs5, by rw [List.length_append]; exact ho5, hgg5⟩
              case measure => simp; omega
            · go_wp2
              go_ret
              exact ⟨_, rfl, ⟨out, by omega, ho⟩, hs.more (by omega), hg⟩
        · go_wp2
          go_ret
          exact ⟨_, rfl, ⟨p, by omega, ho3⟩, hs3.more (by omega), hgg3⟩
set_option maxHeartbeats 1000000 in
theorem l10Draw_src (g : Nat) (A : Option Addr) (n c K : Nat) (xs : List Int) (w : World) (hK : K ≤ 100) (h : Src w g A n c xs K) :
    Calls Try.prog 174 #[.pointer (some ⟨g, 0, none⟩)] w fun e w' => ∃ v, e = .returned v ∧ AnyRow w.heap.size w' v ∧ Src w' g A n c xs (K + 900) ∧ w.grownBy w' (some g) := by
  have hgl := h.lt
  have hP := hid (one_src g A n c K xs 12 w (by omega) (by omega) h)
  clear h
  go_enter Try.func174, Try.ntmps174
  go_wp2_with fail
  refine hP.out.mono ?_
  rintro e wa ⟨⟨ba, rfl⟩, hsa, hga⟩
  have hza := hga.size
  clear hP
  cases ba
  case true =>
    go_wp2_with fail
    refine (l02Bent_src g A n c (K + 2) xs wa (by omega) hsa).mono ?_
    rintro e wb ⟨vb, rfl, ⟨q, hq, hob⟩, hsb, hgb⟩
    have hgg := grown_trans hga hgb
    go_wp2
    go_ret
    exact ⟨_, rfl, ⟨q, hq, own_more hob hza⟩, hsb.more (by omega), hgg⟩
  case false =>
  go_wp2_with fail
  refine (one_src g A n c (K + 2) xs 3 wa (by omega) (by omega) hsa).mono ?_
  rintro e wb ⟨⟨bb, rfl⟩, hsb, hgb⟩
  have hgg := grown_trans hga hgb
  have hzb := hgb.size
  clear hsa hga hgb
  cases bb
  case true =>
    have hgx : ∀ o, w.grownBy (wb.alloc o) (some g) := fun o => grown_bl hgg (B := wb.heap.size) ((Below.refl _ _).alloc (Nat.le_refl _) _) (by omega)
    have hsx : ∀ o, Src (wb.alloc o) g A n c xs (K + 4) := fun o => hsb.below (B := wb.heap.size) ((Below.refl _ _).alloc (Nat.le_refl _) _) (by omega)
    have HGX := hid hgx
    have HSX := hid hsx
    clear hgx hsx hgg hsb
    go_wp2_with fail
    refine (text_src g A n c (K + 4) xs wb.heap.size 0 14 14 _ (by omega) (by omega) (by simp) (by omega) (by omega) ?_ (HSX.out _)).mono ?_
    · intro i hi
      rw [World.cell?_alloc_at _ _ _ _ rfl]
      match i, hi with
      | 0, _ => refine ⟨_, ?_, rfl⟩; decide
      | 1, _ => refine ⟨_, ?_, rfl⟩; decide
      | 2, _ => refine ⟨_, ?_, rfl⟩; decide
      | 3, _ => refine ⟨_, ?_, rfl⟩; decide
      | 4, _ => refine ⟨_, ?_, rfl⟩; decide
      | 5, _ => refine ⟨_, ?_, rfl⟩; decide
      | 6, _ => refine ⟨_, ?_, rfl⟩; decide
      | 7, _ => refine ⟨_, ?_, rfl⟩; decide
      | 8, _ => refine ⟨_, ?_, rfl⟩; decide
      | 9, _ => refine ⟨_, ?_, rfl⟩; decide
      | 10, _ => refine ⟨_, ?_, rfl⟩; decide
      | 11, _ => refine ⟨_, ?_, rfl⟩; decide
      | 12, _ => refine ⟨_, ?_, rfl⟩; decide
      | 13, _ => refine ⟨_, ?_, rfl⟩; decide
    rintro e w1 ⟨⟨y, hy, rfl⟩, hs1, hg1⟩
    have hgg1 := grown_trans (HGX.out _) hg1
    have hz1 := hgg1.size
    clear HGX HSX hg1
    go_wp2_with fail
    refine (l02Read_any y (by omega) w1).mono ?_
    rintro e w2 ⟨v2, rfl, ho2, hb2⟩
    have hll := rdDig_len y
    generalize rdDig y.data.toList = R at *
    have hs2 := hs1.below hb2 (by omega)
    have hgg2 := grown_bl hgg1 hb2 hz1
    clear hs1 hgg1
    go_wp2
    go_ret
    exact ⟨_, rfl, ⟨R, by omega, own_more ho2 hz1⟩, hs2.more (by omega), hgg2⟩
  case false =>
  go_wp2_with fail
  refine (pick_src g A n c (K + 4) xs 4 wb (by omega) (by omega) hsb).mono ?_
  rintro e w1 ⟨⟨m, m0, m1, rfl⟩, hs1, hgc⟩
  have hg1 := grown_trans hgg hgc
  have hz1 := hg1.size
  clear hgg hsb hgc
  obtain ⟨N, hN⟩ : ∃ N : Nat, 1 + m = (N : Int) := ⟨(1 + m).toNat, by omega⟩
  have hN1 : 1 ≤ N := by omega
  have hN2 : N ≤ 12 := by omega
  have hz1 := hg1.size
  clear m1 m0
  go_wp2
  clear hN
  have ho0 : (w1.alloc (Obj.cells #[] 2)).ownsRow w.heap.size 2 1 (.slice (some ⟨w1.heap.size, 0, none⟩) 0 0) ([] : List Int).length (ints []) := World.ownsRow_lit (base := w.heap.size) w1 #[] (e := 2) (size := 1) 0 hz1 (by simp [maxLen]) rfl
  have hst : Src (w1.alloc (Obj.cells #[] 2)) g A n c xs (K + 6) := hs1.below (B := w1.heap.size) ((Below.refl _ _).alloc (Nat.le_refl _) _) (by omega)
  have hgt : w.grownBy (w1.alloc (Obj.cells #[] 2)) (some g) := grown_bl hg1 (B := w1.heap.size) ((Below.refl _ _).alloc (Nat.le_refl _) _) hz1
  clear hs1 hg1
  go_loopw [4, 5] (fun v i wr => ∃ (k : Nat) (L : List Int) (K2 : Nat), i = .int .i64 k ∧ k ≤ N ∧ K2 ≤ K + 6 + 2 * k ∧ Hid (Perm k L) ∧ L.length ≤ 12 ∧ Src wr g A n c xs K2 ∧ wr.ownsRow w.heap.size 2 1 v L.length (ints L) ∧ w.grownBy wr (some g)) (fun _ i _ => N - (intOf i).toNat)
  case atStart => exact ⟨0, [], K + 6, rfl, by omega, by omega, Perm.nil, by simp, hst, ho0, hgt⟩
  case round =>
    clear ho0 hst hgt
    obtain ⟨k, L, K2, rfl, hk, hK2, hP, hL, hs, ho, hg⟩ := hrel
    have hz := hg.size
    have hlk := hs.lt
    by_cases hlt : k < N
    · have hLk := hid hP.out.1
      go_wp2_with fail
      refine (pick_src g A n c K2 xs ((k : Int) + 1) wr (by omega) (by omega) hs).mono ?_
      rintro e w3 ⟨⟨x, x0, x1, rfl⟩, hs3, hg3⟩
      obtain ⟨a, rfl⟩ := Int.eq_ofNat_of_zero_le x0
      have ha : a ≤ k := by omega
      have HPN : Hid (Perm (k + 1) (swapIn L k a)) := hP.out.swapIn ha
      have ho3 := own_ask ho hs hg3
      have hz3 := hg3.size
      have hg03 := grown_trans hg hg3
      have HLL : Hid ((L ++ [(k : Int)]).length = k + 1) := by show _ = _; rw [List.length_append, hLk.out]; rfl
      obtain ⟨y, hy⟩ : ∃ y, (L ++ [(k : Int)]).getD a 0 = y := ⟨_, rfl⟩
      have HSW : Hid (((L ++ [(k : Int)]).set k y).set a (k : Int) = swapIn L k a) := by show _ = _; rw [← hy]; rfl
      have HY := hid hy
      clear hs ho hg hg3 x1 hP hy
      go_wp2_with (
        at_builtin
        refine push_int ho3 (k : Int) _ Try.underlying43 inf_int rfl rfl _ _ rfl rfl rfl (by omega) (by omega) ?_
        intro v4 w4 ho4 hb4 hg4
        rw [HLL.out] at ho4
        obtain ⟨g4, c4, rfl, hge4, hgl4⟩ := own_block ho4 (by omega)
        have hs4 := hs3.below hb4 hgl
        have hgg4 := grown_bl hg03 hb4 (Nat.le_refl _)
        have hcA : w4.cell? ⟨g4, a, none⟩ = some (.int .i64 y) := by
          rw [ho4.cellAt a (by omega), ← HY.out]
          exact ints_at (by rw [HLL.out]; omega)
        obtain ⟨uK, hcK⟩ : ∃ u, w4.cell? ⟨g4, k, none⟩ = some u := by
          rw [ho4.cellAt k (by omega)]
          exact ⟨_, ints_at (by rw [HLL.out]; omega)⟩
        have hfK := ho4.frozenAt k
        obtain ⟨ho5, hg5⟩ := ho4.stored k (.int .i64 y)
        rw [ints_setD] at ho5
        obtain ⟨uA, hcA5⟩ : ∃ u, (w4.setCell ⟨g4, k, none⟩ (.int .i64 y)).cell? ⟨g4, a, none⟩ = some u := by
          rw [ho5.cellAt a (by omega)]
          exact ⟨_, ints_at (by rw [List.length_set, HLL.out]; omega)⟩
        have hfA5 := ho5.frozenAt a
        obtain ⟨ho6, hg6⟩ := ho5.stored a (.int .i64 (k : Int))
        rw [ints_setD, HSW.out] at ho6
        have HO6 := hid ho6
        clear ho3 ho4 ho5 ho6 hg4 hg5 hg6 hs3 hg03)
      have hb5 : Below w.heap.size w4 ((w4.setCell ⟨g4, k, none⟩ (.int .i64 y)).setCell ⟨g4, a, none⟩ (.int .i64 (k : Int))) := (by repeat' (first | exact Below.refl _ _ | (with_reducible assumption) | (with_reducible refine Below.alloc ?_ ?_ _) | (with_reducible refine Below.setCell ?_ ?_ _) | (with_reducible refine Below.drew ?_) | (with_reducible refine below_drewN ?_ _) | (refine Below.trans ?_ (Below.mono (by assumption) ?_)) | (with_reducible exact Nat.le_refl _) | (with_reducible assumption) | (exact Below.size (by assumption)) | omega | go_size | (simp at *; omega)))
      have hll := swapIn_len (a := a) hLk.out
      go_roundw
      case rel => exact ⟨k + 1, swapIn L k a, K2 + 2, by go_num, by omega, by omega, HPN, by omega, hs4.below hb5 hgl, by rw [hll]; exact HO6.out, grown_bl hgg4 hb5 (Nat.le_refl _)⟩
      case measure => simp [intOf]; omega
    · obtain rfl : k = N := by omega
      have hLk := hid hP.out.1
      rw [hLk.out] at ho
      obtain ⟨g4, c4, rfl, hge4, hgl4⟩ := own_block ho (by omega)
      obtain ⟨wi, rfl⟩ : ∃ wi : World, wi = wr := ⟨_, rfl⟩
      go_wp2
      go_loopw [7, 8] (fun v i wx => Hid (∃ (j : Nat) (out : List Int) (K3 : Nat), i = .int .i64 j ∧ j ≤ k ∧ K3 ≤ K + 40 + 30 * j ∧ Hid (LandsAs k L out) ∧ Hid (out.length = j) ∧ out.length ≤ 12 ∧ Src wx g A n c xs K3 ∧ wx.ownsRow wi.heap.size 2 1 v out.length (ints out) ∧ wx.ownsRow w.heap.size 2 1 (.slice (some ⟨g4, 0, none⟩) k c4) k (ints L) ∧ w.grownBy wx (some g) ∧ wi.heap.size ≤ wx.heap.size)) (fun _ i _ => k - (intOf i).toNat)
      case atStart => exact hid ⟨0, [], K2, rfl, by omega, by omega, LandsAs.nil _ _, rfl, by simp, hs.below (B := wi.heap.size) ((Below.refl _ _).alloc (Nat.le_refl _) _) hlk, World.ownsRow_lit (base := wi.heap.size) wi #[] (e := 2) (size := 1) 0 (Nat.le_refl _) (by simp [maxLen]) rfl, ho.alloc _, grown_bl hg (B := wi.heap.size) ((Below.refl _ _).alloc (Nat.le_refl _) _) hz, by simp⟩
      case round =>
        clear hs ho hg
        obtain ⟨j, out, K3, rfl, hj, hK3, hLA, hol, hol2, hs, ho9, hoL, hg, hz9⟩ := hrel.out
        by_cases hlt : j < k
        · obtain ⟨l0, l1⟩ := hP.out.2.1 j hlt
          obtain ⟨l, hl⟩ : ∃ l, L.getD j 0 = l := ⟨_, rfl⟩
          rw [hl] at l0 l1
          have hcell : wr.cell? ⟨g4, j, none⟩ = some (.int .i64 l) := by
            rw [hoL.cellAt j (by omega), ← hl]
            exact ints_at (by rw [hLk.out]; exact hlt)
          obtain ⟨T0, hT0⟩ : ∃ T0, (l - (j : Int)) % (k : Int) = T0 := ⟨_, rfl⟩
          have hT1 : 0 ≤ T0 := by rw [← hT0]; exact Int.emod_nonneg _ (by omega)
          have hT2 : T0 < (k : Int) := by rw [← hT0]; exact Int.emod_lt_of_pos _ (by omega)
          have HLA := hid (fun (t : Int) (r : Nat) (h0 : 0 ≤ t) (h1 : t ≤ 11) (e : t = T0 + (r : Int) * (k : Int)) => show LandsAs k L (out ++ [t]) from hLA.out.snoc h0 (by omega) (by
            rw [hol.out, hl]
            refine land_mod (n := k) (r : Int) l0 (by omega) ?_
            rw [e, ← hT0]))
          have hMod := hid (l02Mod_any (l - (j : Int)) (k : Int) wr (by omega) (by omega))
          rw [hT0] at hMod
          clear hl hT0 hLA
          by_cases ht : T0 + (k : Int) ≤ 6
          · go_wp2_with (go_at_call 166; refine (hMod.out).mono ?_; rintro e w' ⟨rfl, rfl⟩)
            refine (one_src g A n c K3 xs 2 _ (by omega) (by omega) hs).mono ?_
            rintro e w3 ⟨⟨b, rfl⟩, hs3, hg3⟩
            have ho9' := own_ask ho9 hs hg3
            have hoL' := own_ask hoL hs hg3
            have hgg := grown_trans hg hg3
            have hz3 := hg3.size
            clear hs ho9 hoL hg hg3
            cases b
            · skip
              go_wp2_with (
                at_builtin
                refine push_int ho9' T0 _ Try.underlying43 inf_int rfl rfl _ _ rfl rfl rfl (by omega) (by omega) ?_
                intro v4 w4 ho4 hb4 hg4
                have hs4 := Src.below hs3 hb4 (by omega)
                have hoL4 := own_low hoL' hb4 (fun g h => by have h : g4 = g := (by simpa [Value.ownBlock] using h); omega)
                have hgg4 := grown_bl hgg hb4 (by omega)
                have hz4 := hb4.size)
              go_wp2
              go_roundw
              case rel => exact hid ⟨j + 1, out ++ [T0], K3 + 2, by go_num, by omega, by omega, HLA.out T0 0 hT1 (by omega) (by simp), by show _ = _; rw [List.length_append, hol.out]; rfl, by have := hol.out; rw [List.length_append, List.length_singleton]; omega, hs4, ho4, hoL4, hgg4, by omega⟩
              case measure => simp [intOf]; omega
            · skip
              go_wp2_with (
                at_builtin
                refine push_int ho9' (T0 + (k : Int)) _ Try.underlying43 inf_int rfl rfl _ _ rfl rfl rfl (by omega) (by omega) ?_
                intro v4 w4 ho4 hb4 hg4
                have hs4 := Src.below hs3 hb4 (by omega)
                have hoL4 := own_low hoL' hb4 (fun g h => by have h : g4 = g := (by simpa [Value.ownBlock] using h); omega)
                have hgg4 := grown_bl hgg hb4 (by omega)
                have hz4 := hb4.size)
              go_wp2
              go_roundw
              case rel => exact hid ⟨j + 1, out ++ [T0 + (k : Int)], K3 + 2, by go_num, by omega, by omega, HLA.out (T0 + (k : Int)) 1 (by omega) (by omega) (by omega), by show _ = _; rw [List.length_append, hol.out]; rfl, by have := hol.out; rw [List.length_append, List.length_singleton]; omega, hs4, ho4, hoL4, hgg4, by omega⟩
              case measure => simp [intOf]; omega
          · go_wp2_with (first | (go_at_call 166; refine (hMod.out).mono ?_; rintro e w' ⟨rfl, rfl⟩) | (
              at_builtin
              refine push_int ho9 T0 _ Try.underlying43 inf_int rfl rfl _ _ rfl rfl rfl (by omega) (by omega) ?_
              intro v4 w4 ho4 hb4 hg4
              have hs4 := Src.below hs hb4 (by omega)
              have hoL4 := own_low hoL hb4 (fun g h => by have h : g4 = g := (by simpa [Value.ownBlock] using h); omega)
              have hgg4 := grown_bl hg hb4 (by omega)
              have hz4 := hb4.size))
            go_roundw
            case rel => exact hid ⟨j + 1, out ++ [T0], K3, by go_num, by omega, by omega, HLA.out T0 0 hT1 (by omega) (by simp), by show _ = _; rw [List.length_append, hol.out]; rfl, by have := hol.out; rw [List.length_append, List.length_singleton]; omega, hs4, ho4, hoL4, hgg4, by omega⟩
            case measure => simp [intOf]; omega
        · have hjN : j = k := by omega
          have hok := okP_of_lands hP.out (by omega) (by omega) (by rw [hol.out, hjN]) hLA.out
          have hzz := hg.size
          go_wp2
          go_ret
          exact ⟨_, rfl, OkRow.any ⟨out, hok, own_more ho9 hz⟩, hs.more (by omega), hg⟩
end Go.Proofs.Ytlbhfjbbkkkldaa
