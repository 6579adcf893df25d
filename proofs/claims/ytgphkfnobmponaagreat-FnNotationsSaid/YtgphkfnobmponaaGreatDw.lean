/- The text: Dw. -/
import Derived.Test.YtgphkfnobmponaaGreatProg
import Derived.Test.YtgphkfnobmponaaGreatG02
import Derived.Test.YtgphkfnobmponaaGreatG05
import Derived.Test.YtgphkfnobmponaaGreatG04
import Derived.Deep.LoopGhost
import Derived.Deep.DeepCutAuto
/- Contracts of the functions that draw patterns (spec.l02Draw, l10Draw, A2Pattern). -/
namespace Go.Proofs.YtgphkfnobmponaaGreat
open Go.RowKit
set_option linter.unusedVariables false

theorem own_bne {w : World} {b e s n g : Nat} {t : TypeId} {cs : Array Value} {v : Value} {xs : List Value} (h : w.ownsRow b e s v n xs) (hg : Bx w g t cs) (hne : e ≠ t) : v.ownBlock ≠ some g := by
  rcases h.2 with ⟨rfl, _⟩ | ⟨g', cap, cur, rfl, _, hh, _⟩
  · simp [Value.ownBlock]
  · intro he
    have : g' = g := by simpa [Value.ownBlock] using he
    subst this
    unfold Bx at hg
    rw [hh] at hg
    injection hg with hg
    injection hg with _ ht
    exact hne ht
/-- A list of numbers of the call's own stays while a source is asked. -/
theorem own_ask {w w' : World} {b n g m c K : Nat} {A : Option Addr} {zs : List Int} {v : Value} {xs : List Value} (h : w.ownsRow b 2 1 v n xs) (hs : Src w g A m c zs K) (hg : w.grownBy w' (some g)) : w'.ownsRow b 2 1 v n xs := by
  obtain ⟨_, _, hb, _⟩ := hs
  exact h.kept hg (.inr (own_bne h hb (by decide)))
theorem own_block {w : World} {base e sz n : Nat} {v : Value} {xs : List Value} (h : w.ownsRow base e sz v n xs) (hn : 0 < n) : ∃ g c, v = .slice (some ⟨g, 0, none⟩) n c ∧ base ≤ g ∧ g < w.heap.size := by
  rcases h.2 with ⟨_, h0⟩ | ⟨g, cap, cur, rfl, hge, hh, _⟩
  · omega
  · exact ⟨g, cap, rfl, hge, (Array.getElem?_eq_some_iff.1 hh).1⟩
theorem own_low {w w' : World} {B base e sz n : Nat} {v : Value} {xs : List Value} (h : w.ownsRow base e sz v n xs) (hb : Below B w w') (hlt : ∀ g, v.ownBlock = some g → g < B) : w'.ownsRow base e sz v n xs := by
  refine ⟨h.1, ?_⟩
  rcases h.2 with hn | ⟨g, cap, cur, rfl, hg, hh, r⟩
  · exact .inl hn
  · exact .inr ⟨g, cap, cur, rfl, hg, by rw [hb.block g (hlt g rfl)]; exact hh, r⟩
theorem grown_bl {w0 w w' : World} {B : Nat} {row : Option Nat} (h : w0.grownBy w row) (hb : Below B w w') (hB : w0.heap.size ≤ B) : w0.grownBy w' row :=
  ⟨hb.os.trans h.os, hb.tape.trans h.tape, hb.output.trans h.output, Nat.le_trans h.size hb.size, fun k hk hne => (hb.block k (by omega)).trans (h.block k hk hne)⟩
theorem ints_setD (xs : List Int) (i : Nat) (x : Int) : (ints xs).set i (.int .i64 x) = ints (xs.set i x) := by simp [ints, List.map_set]
theorem ints_at {xs : List Int} {i : Nat} (h : i < xs.length) : (ints xs)[i]? = some (.int .i64 (xs.getD i 0)) := by
  rw [ints, List.getElem?_map, List.getD_eq_getElem?_getD, List.getElem?_eq_getElem h]; rfl
/-- A pattern of the call's own. -/
def OkRow (B : Nat) (w : World) (v : Value) : Prop := ∃ p, okP p = true ∧ w.ownsRow B 2 1 v p.length (ints p)
theorem one_src (g : Nat) (A : Option Addr) (n c K : Nat) (xs : List Int) (k : Int) (w : World) (hK : K ≤ 549755813888) (hk : k ≤ 65536) (h : Src w g A n c xs K) :
    Calls Tryz.prog 128 #[.pointer (some ⟨g, 0, none⟩), .int .i64 k] w fun e w' => (∃ b : Bool, e = .returned (.bool b)) ∧ Src w' g A n c xs (K + 2) ∧ w.grownBy w' (some g) := by
  have hP := hid (pick_src g A n c K xs k w hK hk h)
  clear h
  go_enter Tryz.func128, Tryz.ntmps128
  go_wp2_with fail
  refine hP.out.mono ?_
  rintro e w1 ⟨⟨x, x0, x1, rfl⟩, hs1, hg1⟩
  go_wp2
  go_ret
  exact ⟨⟨_, rfl⟩, hs1, hg1⟩
set_option maxHeartbeats 1000000 in
theorem l02Draw_src (g : Nat) (A : Option Addr) (n c K : Nat) (xs : List Int) (most : Int) (w : World) (hK : K ≤ 1000000) (hm1 : 1 ≤ most) (hm2 : most ≤ 12) (h : Src w g A n c xs K) :
    Calls Tryz.prog 98 #[.pointer (some ⟨g, 0, none⟩), .int .i64 most] w fun e w' => ∃ v, e = .returned v ∧ OkRow w.heap.size w' v ∧ Src w' g A n c xs (K + 500) ∧ w.grownBy w' (some g) := by
  have hgl := h.lt
  have hP := hid (pick_src g A n c K xs most w (by omega) (by omega) h)
  clear h
  go_enter Tryz.func98, Tryz.ntmps98
  go_wp2_with fail
  refine hP.out.mono ?_
  rintro e w1 ⟨⟨m, m0, m1, rfl⟩, hs1, hg1⟩
  obtain ⟨N, hN⟩ : ∃ N : Nat, 1 + m = (N : Int) := ⟨(1 + m).toNat, by omega⟩
  have hN1 : 1 ≤ N := by omega
  have hN2 : N ≤ 12 := by omega
  have hz1 := hg1.size
  clear hP m1 m0
  go_wp2
  clear hN
  have ho0 : (w1.alloc (Obj.cells #[] 2)).ownsRow w.heap.size 2 1 (.slice (some ⟨w1.heap.size, 0, none⟩) 0 0) ([] : List Int).length (ints []) := World.ownsRow_lit (base := w.heap.size) w1 #[] (e := 2) (size := 1) 0 hz1 (by simp [maxLen]) rfl
  have hst : Src (w1.alloc (Obj.cells #[] 2)) g A n c xs (K + 2) := hs1.below (B := w1.heap.size) ((Below.refl _ _).alloc (Nat.le_refl _) _) (by omega)
  have hgt : w.grownBy (w1.alloc (Obj.cells #[] 2)) (some g) := grown_bl hg1 (B := w1.heap.size) ((Below.refl _ _).alloc (Nat.le_refl _) _) hz1
  clear hs1 hg1
  go_loopw [6, 7] (fun v i wr => ∃ (k : Nat) (L : List Int) (K2 : Nat), i = .int .i64 k ∧ k ≤ N ∧ K2 ≤ K + 2 + 2 * k ∧ Hid (Perm k L) ∧ L.length ≤ 12 ∧ Src wr g A n c xs K2 ∧ wr.ownsRow w.heap.size 2 1 v L.length (ints L) ∧ w.grownBy wr (some g)) (fun _ i _ => N - (intOf i).toNat)
  case atStart => exact ⟨0, [], K + 2, rfl, by omega, by omega, Perm.nil, by simp, hst, ho0, hgt⟩
  case round =>
    clear ho0 hst hgt
    obtain ⟨k, L, K2, rfl, hk, hK2, hP, hL, hs, ho, hg⟩ := hrel
    have hz := hg.size
    have hlk := hs.lt
    by_cases hlt : k < N
    · have hLk := hid hP.out.1
      go_wp2_with fail
      refine (pick_src g A n c K2 xs ((k : Int) + 1) wr (by omega) (by omega) hs).mono ?_
      rintro e w3 ⟨⟨x, x0, x1, rfl⟩, hs3, hg3⟩
      obtain ⟨a, rfl⟩ := Int.eq_ofNat_of_zero_le x0
      have ha : a ≤ k := by omega
      have HPN : Hid (Perm (k + 1) (swapIn L k a)) := hP.out.swapIn ha
      have ho3 := own_ask ho hs hg3
      have hz3 := hg3.size
      have hg03 := grown_trans hg hg3
      have HLL : Hid ((L ++ [(k : Int)]).length = k + 1) := by show _ = _; rw [List.length_append, hLk.out]; rfl
      obtain ⟨y, hy⟩ : ∃ y, (L ++ [(k : Int)]).getD a 0 = y := ⟨_, rfl⟩
      have HSW : Hid (((L ++ [(k : Int)]).set k y).set a (k : Int) = swapIn L k a) := by show _ = _; rw [← hy]; rfl
      have HY := hid hy
      clear hs ho hg hg3 x1 hP hy
      go_wp2_with (
        at_builtin
        refine push_int ho3 (k : Int) _ Tryz.underlying24 inf_int rfl rfl _ _ rfl rfl rfl (by omega) (by omega) ?_
        intro v4 w4 ho4 hb4 hg4
        rw [HLL.out] at ho4
        obtain ⟨g4, c4, rfl, hge4, hgl4⟩ := own_block ho4 (by omega)
        have hs4 := hs3.below hb4 hgl
        have hgg4 := grown_bl hg03 hb4 (Nat.le_refl _)
        have hcA : w4.cell? ⟨g4, a, none⟩ = some (.int .i64 y) := by
          rw [ho4.cellAt a (by omega), ← HY.out]
          exact ints_at (by rw [HLL.out]; omega)
        obtain ⟨uK, hcK⟩ : ∃ u, w4.cell? ⟨g4, k, none⟩ = some u := by
          rw [ho4.cellAt k (by omega)]
          exact ⟨_, ints_at (by rw [HLL.out]; omega)⟩
        have hfK := ho4.frozenAt k
        obtain ⟨ho5, hg5⟩ := ho4.stored k (.int .i64 y)
        rw [ints_setD] at ho5
        obtain ⟨uA, hcA5⟩ : ∃ u, (w4.setCell ⟨g4, k, none⟩ (.int .i64 y)).cell? ⟨g4, a, none⟩ = some u := by
          rw [ho5.cellAt a (by omega)]
          exact ⟨_, ints_at (by rw [List.length_set, HLL.out]; omega)⟩
        have hfA5 := ho5.frozenAt a
        obtain ⟨ho6, hg6⟩ := ho5.stored a (.int .i64 (k : Int))
        rw [ints_setD, HSW.out] at ho6
        have HO6 := hid ho6
        clear ho3 ho4 ho5 ho6 hg4 hg5 hg6 hs3 hg03)
      have hb5 : Below w.heap.size w4 ((w4.setCell ⟨g4, k, none⟩ (.int .i64 y)).setCell ⟨g4, a, none⟩ (.int .i64 (k : Int))) := (by repeat' (first | exact Below.refl _ _ | (with_reducible first | assumption | exact Nat.le_refl _ | refine Below.alloc ?_ ?_ _ | refine Below.setCell ?_ ?_ _ | refine Below.drew ?_ | refine below_drewN ?_ _) | refine Below.trans ?_ (Below.mono (by assumption) ?_) | exact Below.size (by assumption) | omega | go_size | (simp at *; omega)))
      have hll := swapIn_len (a := a) hLk.out
      go_roundw
      case rel => exact ⟨k + 1, swapIn L k a, K2 + 2, by go_num, by omega, by omega, HPN, by omega, hs4.below hb5 hgl, by rw [hll]; exact HO6.out, grown_bl hgg4 hb5 (Nat.le_refl _)⟩
      case measure => simp [intOf]; omega
    · obtain rfl : k = N := by omega
      have hLk := hid hP.out.1
      rw [hLk.out] at ho
      obtain ⟨g4, c4, rfl, hge4, hgl4⟩ := own_block ho (by omega)
      obtain ⟨wi, rfl⟩ : ∃ wi : World, wi = wr := ⟨_, rfl⟩
      go_wp2
      go_loopw [9, 10] (fun v i wx => Hid (∃ (j : Nat) (out : List Int) (K3 : Nat), i = .int .i64 j ∧ j ≤ k ∧ K3 ≤ K + 30 + 30 * j ∧ Hid (LandsAs k L out) ∧ Hid (out.length = j) ∧ out.length ≤ 12 ∧ Src wx g A n c xs K3 ∧ wx.ownsRow wi.heap.size 2 1 v out.length (ints out) ∧ wx.ownsRow w.heap.size 2 1 (.slice (some ⟨g4, 0, none⟩) k c4) k (ints L) ∧ w.grownBy wx (some g) ∧ wi.heap.size ≤ wx.heap.size)) (fun _ i _ => k - (intOf i).toNat)
      case atStart => exact hid ⟨0, [], K2, rfl, by omega, by omega, LandsAs.nil _ _, rfl, by simp, hs.below (B := wi.heap.size) ((Below.refl _ _).alloc (Nat.le_refl _) _) hlk, World.ownsRow_lit (base := wi.heap.size) wi #[] (e := 2) (size := 1) 0 (Nat.le_refl _) (by simp [maxLen]) rfl, ho.alloc _, grown_bl hg (B := wi.heap.size) ((Below.refl _ _).alloc (Nat.le_refl _) _) hz, by simp⟩
      case round =>
        clear hs ho hg
        obtain ⟨j, out, K3, rfl, hj, hK3, hLA, hol, hol2, hs, ho9, hoL, hg, hz9⟩ := hrel.out
        by_cases hlt : j < k
        · obtain ⟨l0, l1⟩ := hP.out.2.1 j hlt
          obtain ⟨l, hl⟩ : ∃ l, L.getD j 0 = l := ⟨_, rfl⟩
          rw [hl] at l0 l1
          have hcell : wr.cell? ⟨g4, j, none⟩ = some (.int .i64 l) := by
            rw [hoL.cellAt j (by omega), ← hl]
            exact ints_at (by rw [hLk.out]; exact hlt)
          obtain ⟨T0, hT0⟩ : ∃ T0, (l - (j : Int)) % (k : Int) = T0 := ⟨_, rfl⟩
          have hT1 : 0 ≤ T0 := by rw [← hT0]; exact Int.emod_nonneg _ (by omega)
          have hT2 : T0 < (k : Int) := by rw [← hT0]; exact Int.emod_lt_of_pos _ (by omega)
          have HLA := hid (fun (t : Int) (r : Nat) (h0 : 0 ≤ t) (h1 : t ≤ 11) (e : t = T0 + (r : Int) * (k : Int)) => show LandsAs k L (out ++ [t]) from hLA.out.snoc h0 (by omega) (by
            rw [hol.out, hl]
            refine land_mod (n := k) (r : Int) l0 (by omega) ?_
            rw [e, ← hT0]))
          have hMod := hid (l02Mod_any (l - (j : Int)) (k : Int) wr (by omega) (by omega))
          rw [hT0] at hMod
          clear hl hT0 hLA
          go_wp2_with (go_at_call 127; refine (hMod.out).mono ?_; rintro e w' ⟨rfl, rfl⟩)
          go_loopw [11] (fun t wy => Hid (∃ (tt : Int) (r K4 : Nat), t = .int .i64 tt ∧ Hid (tt = T0 + (r : Int) * (k : Int)) ∧ 0 ≤ tt ∧ tt ≤ 11 ∧ (K4 : Int) ≤ (K3 : Int) + 2 * tt ∧ Src wy g A n c xs K4 ∧ wy.ownsRow wi.heap.size 2 1 u9 out.length (ints out) ∧ wy.ownsRow w.heap.size 2 1 (.slice (some ⟨g4, 0, none⟩) k c4) k (ints L) ∧ w.grownBy wy (some g) ∧ wi.heap.size ≤ wy.heap.size)) (fun t _ => (12 - intOf t).toNat)
          case atStart => exact hid ⟨T0, 0, K3, rfl, by show _ = _; simp, hT1, by omega, by omega, hs, ho9, hoL, hg, hz9⟩
          case round =>
            clear hs ho9 hoL hg hz9 hcell
            obtain ⟨tt, r, K4, rfl, htr, ht0, ht1, hK4, hs, ho9, hoL, hg, hz9⟩ := hrel.out
            by_cases ht : tt + (k : Int) ≤ 9
            · go_wp2_with fail
              refine (one_src g A n c K4 xs 2 _ (by omega) (by omega) hs).mono ?_
              rintro e w3 ⟨⟨b, rfl⟩, hs3, hg3⟩
              have ho9' := own_ask ho9 hs hg3
              have hoL' := own_ask hoL hs hg3
              have hgg := grown_trans hg hg3
              have hz3 := hg3.size
              cases b
              · clear hs ho9 hoL hg hg3
                go_wp2_with (
                  at_builtin
                  refine push_int ho9' tt _ Tryz.underlying24 inf_int rfl rfl _ _ rfl rfl rfl (by omega) (by omega) ?_
                  intro v4 w4 ho4 hb4 hg4
                  have hs4 := Src.below hs3 hb4 (by omega)
                  have hoL4 := own_low hoL' hb4 (fun g h => by have h : g4 = g := (by simpa [Value.ownBlock] using h); omega)
                  have hgg4 := grown_bl hgg hb4 (by omega)
                  have hz4 := hb4.size)
                go_wp2
                go_roundw
                case rel => exact hid ⟨j + 1, out ++ [tt], K4 + 2, by go_num, by omega, by omega, HLA.out tt r ht0 ht1 htr.out, by show _ = _; rw [List.length_append, hol.out]; rfl, by have := hol.out; rw [List.length_append, List.length_singleton]; omega, hs4, ho4, hoL4, hgg4, by omega⟩
                case measure => simp [intOf]; omega
              · have HTR : Hid (tt + (k : Int) = T0 + ((r + 1 : Nat) : Int) * (k : Int)) := by
                  show _ = _
                  rw [htr.out, show ((r + 1 : Nat) : Int) = (r : Int) + 1 from rfl, Int.add_mul, Int.one_mul]; omega
                clear hs ho9 hoL hg hg3
                go_wp2
                go_roundw
                case rel => exact hid ⟨tt + (k : Int), r + 1, K4 + 2, by go_num, HTR, by omega, by omega, by omega, hs3, ho9', hoL', hgg, by omega⟩
                case measure => simp [intOf]; omega
            · skip
              go_wp2_with (
                at_builtin
                refine push_int ho9 tt _ Tryz.underlying24 inf_int rfl rfl _ _ rfl rfl rfl (by omega) (by omega) ?_
                intro v4 w4 ho4 hb4 hg4
                have hs4 := Src.below hs hb4 (by omega)
                have hoL4 := own_low hoL hb4 (fun g h => by have h : g4 = g := (by simpa [Value.ownBlock] using h); omega)
                have hgg4 := grown_bl hg hb4 (by omega)
                have hz4 := hb4.size)
              go_roundw
              case rel => exact hid ⟨j + 1, out ++ [tt], K4, by go_num, by omega, by omega, HLA.out tt r ht0 ht1 htr.out, by show _ = _; rw [List.length_append, hol.out]; rfl, by have := hol.out; rw [List.length_append, List.length_singleton]; omega, hs4, ho4, hoL4, hgg4, by omega⟩
              case measure => simp [intOf]; omega
        · have hjN : j = k := by omega
          have hok := okP_of_lands hP.out (by omega) (by omega) (by rw [hol.out, hjN]) hLA.out
          have hzz := hg.size
          go_wp2
          go_ret
          exact ⟨_, rfl, ⟨out, hok, own_more ho9 hz⟩, hs.more (by omega), hg⟩
theorem text_src (g : Nat) (A : Option Addr) (n c K : Nat) (xs : List Int) (b off m c2 : Nat) (w : World) (hK : K ≤ 1000000) (hb : b ≠ g) (hbl : b < w.heap.size) (hm1 : 1 ≤ m) (hm2 : m ≤ 100) (hc : ∀ i, i < m → ∃ y, y.size ≤ 12 ∧ w.cell? ⟨b, off + i, none⟩ = some (.string y)) (h : Src w g A n c xs K) :
    Calls Tryz.prog 69 #[.pointer (some ⟨g, 0, none⟩), .slice (some ⟨b, off, none⟩) m c2] w fun e w' => (∃ y, y.size ≤ 12 ∧ e = .returned (.string y)) ∧ Src w' g A n c xs (K + 2) ∧ w.grownBy w' (some g) := by
  have hP := hid (pick_src g A n c K xs (m : Int) w (by omega) (by omega) h)
  have HC := hid hc
  clear h hc
  go_enter Tryz.func69, Tryz.ntmps69
  go_wp2_with fail
  refine hP.out.mono ?_
  rintro e w1 ⟨⟨x, x0, x1, rfl⟩, hs1, hg1⟩
  obtain ⟨i, rfl⟩ := Int.eq_ofNat_of_zero_le x0
  have hi : i < m := by omega
  obtain ⟨y, hys, hy⟩ := HC.out i hi
  have hcell : w1.cell? ⟨b, off + i, none⟩ = some (.string y) := (World.cell?_of_block (hg1.block b hbl (by simp; exact hb))).trans hy
  clear x1
  go_wp2
  go_ret
  exact ⟨⟨y, hys, rfl⟩, hs1, hg1⟩
def rDig (c : Int) : Int := if 48 ≤ c ∧ c ≤ 57 then c - 48 else if 97 ≤ c ∧ c ≤ 102 then c - 87 else -1
def rdDig (l : List UInt8) : List Int := l.map fun b => rDig (b.toNat : Int)
theorem rdDig_len (s : ByteArray) : (rdDig s.data.toList).length = s.size := by simp [rdDig]
theorem byte_drop (s : ByteArray) (k : Nat) (h : k < s.size) : s.data.toList.drop k = s[k] :: s.data.toList.drop (k + 1) := by
  rw [List.drop_eq_getElem_cons (by simpa using h)]; rfl
theorem l02Digit_any (c : Int) (c0 : 0 ≤ c) (c1 : c ≤ 255) (w : World) : Calls Tryz.prog 82 #[.int .u8 c] w fun e w' => e = .returned (.int .i64 (rDig c)) ∧ w = w' := by
  by_cases h1 : 48 ≤ c
  · by_cases h2 : c ≤ 57
    · have hd : Hid (rDig c = c - 48) := by show _ = _; simp [rDig, h1, h2]
      go_enter Tryz.func82, Tryz.ntmps82
      go_wp2
      go_ret
      exact ⟨ret_int hd.out.symm, rfl⟩
    · by_cases h3 : 97 ≤ c
      · by_cases h4 : c ≤ 102
        · have hd : Hid (rDig c = c - 87) := by show _ = _; simp [rDig, h2, h3, h4]
          go_enter Tryz.func82, Tryz.ntmps82
          go_wp2
          go_ret
          exact ⟨ret_int (by rw [hd.out]; omega), rfl⟩
        · have hd : Hid (rDig c = -1) := by show _ = _; simp [rDig, h2, h4]
          go_enter Tryz.func82, Tryz.ntmps82
          go_wp2
          go_ret
          exact ⟨ret_int hd.out.symm, rfl⟩
      · have hd : Hid (rDig c = -1) := by show _ = _; simp [rDig, h2, h3]
        go_enter Tryz.func82, Tryz.ntmps82
        go_wp2
        go_ret
        exact ⟨ret_int hd.out.symm, rfl⟩
  · have h3 : ¬ 97 ≤ c := by omega
    have hd : Hid (rDig c = -1) := by show _ = _; simp [rDig, h1, h3]
    go_enter Tryz.func82, Tryz.ntmps82
    go_wp2
    go_ret
    exact ⟨ret_int hd.out.symm, rfl⟩
theorem l02Read_any (s : ByteArray) (hs : s.size ≤ 1099511627776) (w : World) :
    Calls Tryz.prog 45 #[.string s] w fun e w' => ∃ v, e = .returned v ∧ w'.ownsRow w.heap.size 2 1 v (rdDig s.data.toList).length (ints (rdDig s.data.toList)) ∧ Below w.heap.size w w' := by
  have hst : Hid (([] : List Int) ++ rdDig (s.data.toList.drop 0) = rdDig s.data.toList) := rfl
  have hll := rdDig_len s
  generalize rdDig s.data.toList = R at *
  go_enter Tryz.func45, Tryz.ntmps45
  go_wp2
  go_loopw [3, 4] (fun v i wr => Hid (∃ (k : Nat) (out : List Int), k ≤ s.size ∧ i = .int .i64 k ∧ out.length ≤ s.size ∧ Hid (out ++ rdDig (s.data.toList.drop k) = R) ∧ wr.ownsRow w.heap.size 2 1 v out.length (ints out) ∧ Below w.heap.size w wr)) (fun _ i _ => s.size - (intOf i).toNat)
  case atStart => exact hid ⟨0, [], Nat.zero_le _, rfl, by simp, hst, World.ownsRow_lit _ _ 0 (Nat.le_refl _) (by simp [maxLen]) rfl, (by repeat' (first | exact Below.refl _ _ | (with_reducible first | assumption | exact Nat.le_refl _ | refine Below.alloc ?_ ?_ _ | refine Below.setCell ?_ ?_ _ | refine Below.drew ?_ | refine below_drewN ?_ _) | refine Below.trans ?_ (Below.mono (by assumption) ?_) | exact Below.size (by assumption) | omega | go_size | (simp at *; omega)))⟩
  case round =>
    obtain ⟨k, out, hk, rfl, hol, he, ho, hb0⟩ := hrel.out
    have hB := hb0.size
    have hRl : Hid (out.length + (s.size - k) = R.length) := by
      show _ = _
      rw [← he.out]; simp [rdDig]
    by_cases hlt : k < s.size
    · have HZ : Hid ((out ++ [rDig ((s[k]'hlt).toNat : Int)]) ++ rdDig (s.data.toList.drop (k + 1)) = R) := by
        show _ = _
        rw [← he.out, byte_drop s k hlt]; simp [rdDig]
      have hby : ((s[k]'hlt).toNat : Int) ≤ 255 := by have := (s[k]'hlt).toNat_lt; omega
      have hby0 : 0 ≤ ((s[k]'hlt).toNat : Int) := by omega
      have hD := hid (l02Digit_any ((s[k]'hlt).toNat : Int) hby0 hby wr)
      have hol2 : out.length + 1 ≤ s.size := by have := hRl.out; omega
      generalize rDig ((s[k]'hlt).toNat : Int) = d at *
      clear he hst hRl
      go_wp2_with (first | (go_at_call 82; refine (hD.out).mono ?_; rintro e w' ⟨rfl, rfl⟩) | (at_builtin; refine push_int ho (d) _ Tryz.underlying24 inf_int rfl rfl _ _ rfl rfl rfl (by omega) (by omega) ?_; intro v1 w1 ho1 hb1 hg1))
      go_roundw
      case rel => exact hid ⟨k + 1, out ++ [d], by omega, by go_num, by rw [List.length_append]; exact hol2, HZ, ho1, (by repeat' (first | exact Below.refl _ _ | (with_reducible first | assumption | exact Nat.le_refl _ | refine Below.alloc ?_ ?_ _ | refine Below.setCell ?_ ?_ _ | refine Below.drew ?_ | refine below_drewN ?_ _) | refine Below.trans ?_ (Below.mono (by assumption) ?_) | exact Below.size (by assumption) | omega | go_size | (simp at *; omega)))⟩
      case measure => simp [intOf]; omega
    · have hkk : k = s.size := by omega
      have hR := he.out
      rw [List.drop_eq_nil_of_le (by simp; omega)] at hR
      simp only [rdDig, List.map_nil, List.append_nil] at hR
      subst hR
      go_wp2
      go_ret
      exact ⟨_, rfl, ho, (by repeat' (first | exact Below.refl _ _ | (with_reducible first | assumption | exact Nat.le_refl _ | refine Below.alloc ?_ ?_ _ | refine Below.setCell ?_ ?_ _ | refine Below.drew ?_ | refine below_drewN ?_ _) | refine Below.trans ?_ (Below.mono (by assumption) ?_) | exact Below.size (by assumption) | omega | go_size | (simp at *; omega)))⟩
end Go.Proofs.YtgphkfnobmponaaGreat
