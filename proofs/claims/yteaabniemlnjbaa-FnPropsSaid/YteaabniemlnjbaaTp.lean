/- Contracts of ThrowsOfProp, and the walk of its law. -/
import Derived.Test.YteaabniemlnjbaaPr
import Derived.Test.YteaabniemlnjbaaPc
import Derived.Test.YteaabniemlnjbaaPu
namespace Go.Proofs.Yteaabniemlnjbaa
open Go.RowKit
set_option linter.unusedVariables false

/-- The places of a number in a list, the first one being i. -/
def posK (k : Int) : Nat → List Int → List Int
  | _, [] => []
  | i, x :: xs => if x = k then (i : Int) :: posK k (i + 1) xs else posK k (i + 1) xs
theorem posK_yes {k x : Int} {i : Nat} {xs : List Int} (h : x = k) : posK k i (x :: xs) = (i : Int) :: posK k (i + 1) xs := by simp [posK, h]
theorem posK_not {k x : Int} {i : Nat} {xs : List Int} (h : x ≠ k) : posK k i (x :: xs) = posK k (i + 1) xs := by simp [posK, h]
theorem posK_len {k : Int} : ∀ (xs : List Int) (i : Nat), (posK k i xs).length ≤ xs.length := by
  intro xs
  induction xs with
  | nil => intro i; simp [posK]
  | cons x xs ih =>
    intro i
    by_cases h : x = k
    · rw [posK_yes h]; have := ih (i + 1); simp only [List.length_cons]; omega
    · rw [posK_not h]; have := ih (i + 1); simp only [List.length_cons]; omega
def rThrowsOfProp (p : List Int) (k b : Int) : List Int × Int := if okP p then (if betweenB b 0 200 && betweenB k 0 (prN p - 1) then (posK k 0 (prs p b.toNat), 0) else ([], 2)) else ([], 1)
theorem ThrowsOfProp_len (p : List Int) (k b : Int) : (rThrowsOfProp p k b).1.length ≤ 200 := by
  unfold rThrowsOfProp
  split
  · split
    · rename_i h
      simp only [Bool.and_eq_true, betweenB_iff] at h
      have := posK_len (k := k) (prs p b.toNat) 0
      rw [prs_len] at this
      show (posK k 0 (prs p b.toNat)).length ≤ 200
      omega
    · simp
  · simp

set_option maxHeartbeats 400000 in
theorem ThrowsOfProp_any (A : Option Addr) (n c : Nat) (p : List Int) (kk b : Int) (w : World) (hn : n ≤ 1099511627776) (hr : Rd w w.heap.size 1 A n (ints p)) :
    Calls Try.prog 17 #[.slice A n c, .int .i64 kk, .int .i64 b] w fun e w' => ∃ v, e = .returned (.tuple #[v, .int .i64 (rThrowsOfProp p kk b).2]) ∧ w'.ownsRow w.heap.size 2 1 v (rThrowsOfProp p kk b).1.length (ints (rThrowsOfProp p kk b).1) ∧ Below w.heap.size w w' := by
  have hV := ValidPattern_any A n c p w hn hr
  by_cases k : okP p = true
  · rw [k] at hV
    have hV := hid hV
    have HPo := hid (fun (w1 : World) (h : Rd w1 w1.heap.size 1 A n (ints p)) => propsOf_any A n c p w1 k h)
    have HR := hid hr
    obtain ⟨pb0, pb1⟩ := prN_bd k
    have pb2 := hiT_bd (okP_th k)
    by_cases k2 : betweenB b 0 200 = true
    · by_cases k3 : betweenB kk 0 (prN p - 1) = true
      · obtain ⟨b0, b1⟩ := (betweenB_iff _ _ _).1 k2
        obtain ⟨N, rfl⟩ := Int.eq_ofNat_of_zero_le b0
        have hs : Hid (rThrowsOfProp p kk (N : Int) = (posK kk 0 (prs p N), 0)) := by show _ = _; simp [rThrowsOfProp, k, k2, k3]
        have hl := prs_len p N
        have hst : Hid (([] : List Int) ++ posK kk 0 ((prs p N).drop 0) = posK kk 0 (prs p N)) := by show _ = _; simp
        have hpl := posK_len (k := kk) (prs p N) 0
        have HS := hid (fun (w1 : World) (h : Rd w1 w1.heap.size 1 A n (ints p)) => propsAt_any A n c p N w1 (by omega) k h)
        generalize prs p N = L at *
        generalize posK kk 0 L = R at *
        generalize prN p = P at *
        have hRl : R.length ≤ 200 := by omega
        have hPb : P ≤ 15 := by omega
        have HL := hid hl
        clear hr k hl hpl pb1 pb2
        go_enter Try.func17, Try.ntmps17
        go_wp2_with (first | (go_at_call 64; refine (hV.out).mono ?_; rintro e w1 ⟨rfl, hb1⟩; first | (have hk1 := bchain (by assumption) hb1; obtain ⟨hc1, hf1, hz1, hl1⟩ := bcell hk1) | (obtain ⟨hc1, hf1, hz1, hl1⟩ := bcell hb1)) | (go_at_call 79; refine (between_any _ _ _ _).mono ?_; rintro e w' ⟨rfl, rfl⟩) | (go_at_call 80; refine (HPo.out _ ((HR.out.below hb1 (Nat.le_refl _)).more hb1.size)).mono ?_; rintro e w' ⟨rfl, rfl⟩) | (go_at_call 81; refine (HS.out _ ((((HR.out.below hb1 (Nat.le_refl _)).more hb1.size).alloc (Nat.le_refl _) _).more (by simp))).mono ?_; rintro e w2 ⟨v2, rfl, ho2, hb2⟩; obtain ⟨A2, c2, rfl⟩ := own_form ho2; have HO1 := hid (own_below (show (w1.alloc (.cells #[] 2)).ownsRow w1.heap.size 2 1 (.slice (some ⟨w1.heap.size, 0, none⟩) 0 0) 0 [] from World.ownsRow_lit _ _ 0 (Nat.le_refl _) (by simp [maxLen]) rfl) hb2); have hB2 : Hid (Below w1.heap.size w1 w2) := ((Below.refl w1.heap.size w1).alloc (Nat.le_refl _) _).trans (hb2.mono (by simp)); have hz2 : w1.heap.size + 1 ≤ w2.heap.size := (by have := hb2.size; simp at this; exact this); have HO2 := hid (own_more (base' := w1.heap.size + 1) ho2 (by simp)); clear ho2 hb2))
        have hOff : Off (.slice (some ⟨w1.heap.size, 0, none⟩) 0 0) (w1.heap.size + 1) w2.heap.size := fun g h => by
          have h : w1.heap.size = g := by simpa [Value.ownBlock] using h
          omega
        have hMv : Hid (∀ g, (Value.slice A2 N c2).ownBlock = some g → g < w2.heap.size) := fun g h => (HO2.out.lt g h).2
        go_loopw [8, 30] (fun v i wr => ∃ (m : Nat) (out : List Int), m ≤ N ∧ i = .int .i64 m ∧ Hid (out ++ posK kk m (L.drop m) = R) ∧ out.length ≤ 200 ∧ wr.ownsRow w1.heap.size 2 1 v out.length (ints out) ∧ Off v (w1.heap.size + 1) w2.heap.size ∧ wr.ownsRow (w1.heap.size + 1) 2 1 (.slice A2 N c2) N (ints L) ∧ w2.heap.size ≤ wr.heap.size ∧ Below w1.heap.size w1 wr) (fun _ i _ => N - (intOf i).toNat)
        case atStart => exact ⟨0, [], Nat.zero_le _, rfl, hst, Nat.zero_le _, HO1.out, hOff, HO2.out, Nat.le_refl _, hB2.out⟩
        case round =>
          obtain ⟨m, out, hm, rfl, he, hol, ho, hoff, hL, hzw, hb0⟩ := hrel
          clear hOff hst
          have hB := hb0.size
          by_cases hlt : m < N
          · obtain ⟨bk, off, x, rfl, _, hx, hd, hc⟩ := (Rd.of_own hL).at_ hlt
            have he := he.out
            rw [hd] at he
            have HLn := hid hL
            have HOFF := hid hoff
            by_cases hxk : x = kk
            · rw [posK_yes hxk] at he
              have HE : Hid ((out ++ [(m : Int)]) ++ posK kk (m + 1) (L.drop (m + 1)) = R) := by show _ = _; rw [← he]; simp
              have hlen : Hid ((out ++ [(m : Int)]).length ≤ 200) := by
                show _ ≤ _
                have := congrArg List.length HE.out
                rw [List.length_append] at this
                omega
              have hq : (x == kk) = true := by simp [hxk]
              clear he hx hd hxk hL hoff
              go_wp2_with (at_builtin; refine push_int2 ho (m : Int) _ Try.underlying22 inf_int rfl rfl _ _ rfl rfl rfl (by omega) (by omega) ?_; intro v1 w4 ho1 hb4 hg1 hs1)
              go_roundw
              case rel => exact ⟨m + 1, _, by omega, by go_num, HE, hlen.out, ho1, HOFF.out.same hs1 hzw, own_off HLn.out hMv.out HOFF.out hg1, Nat.le_trans hzw hb4.size, (by repeat' (first | exact Below.refl _ _ | (with_reducible assumption) | (with_reducible refine Below.alloc ?_ ?_ _) | (with_reducible refine Below.setCell ?_ ?_ _) | (with_reducible refine Below.drew ?_) | (with_reducible refine below_drewN ?_ _) | (refine Below.trans ?_ (Below.mono (by assumption) ?_)) | (with_reducible exact Nat.le_refl _) | (with_reducible assumption) | (exact Below.size (by assumption)) | omega | go_size | (simp at *; omega)))⟩
              case measure => simp [intOf]; omega
            · rw [posK_not hxk] at he
              have HE := hid he
              have hq : (x == kk) = false := by simpa using hxk
              clear he hx hd hL hoff
              go_wp2
              go_roundw
              case rel => exact ⟨m + 1, _, by omega, by go_num, HE, hol, ho, HOFF.out, HLn.out, hzw, hb0⟩
              case measure => simp [intOf]; omega
          · have he := he.out
            rw [List.drop_eq_nil_of_le (by have := HL.out; omega), posK, List.append_nil] at he
            clear hL hoff
            go_wp2
            go_ret2
            rw [hs.out]
            subst he
            exact ⟨_, rfl, own_more ho hb1.size, bchain hb1 hb0⟩
      · have k3 : betweenB kk 0 (prN p - 1) = false := by simpa using k3
        have hs : Hid (rThrowsOfProp p kk b = ([], 2)) := by show _ = _; simp [rThrowsOfProp, k, k2, k3]
        have hPb : prN p ≤ 15 := by omega
        generalize prN p = P at *
        clear k hr pb1 pb2
        go_enter Try.func17, Try.ntmps17
        go_wp2_with (first | (go_at_call 64; refine (hV.out).mono ?_; rintro e w1 ⟨rfl, hb1⟩; first | (have hk1 := bchain (by assumption) hb1; obtain ⟨hc1, hf1, hz1, hl1⟩ := bcell hk1) | (obtain ⟨hc1, hf1, hz1, hl1⟩ := bcell hb1)) | (go_at_call 79; refine (between_any _ _ _ _).mono ?_; rintro e w' ⟨rfl, rfl⟩) | (go_at_call 80; refine (HPo.out _ ((HR.out.below hb1 (Nat.le_refl _)).more hb1.size)).mono ?_; rintro e w' ⟨rfl, rfl⟩))
        go_ret2
        rw [hs.out]
        exact ⟨_, rfl, World.ownsRow_nil _ _ _ _, (by repeat' (first | exact Below.refl _ _ | (with_reducible assumption) | (with_reducible refine Below.alloc ?_ ?_ _) | (with_reducible refine Below.setCell ?_ ?_ _) | (with_reducible refine Below.drew ?_) | (with_reducible refine below_drewN ?_ _) | (refine Below.trans ?_ (Below.mono (by assumption) ?_)) | (with_reducible exact Nat.le_refl _) | (with_reducible assumption) | (exact Below.size (by assumption)) | omega | go_size | (simp at *; omega)))⟩
    · have k2 : betweenB b 0 200 = false := by simpa using k2
      have hs : Hid (rThrowsOfProp p kk b = ([], 2)) := by show _ = _; simp [rThrowsOfProp, k, k2]
      clear k hr pb0 pb1 pb2
      go_enter Try.func17, Try.ntmps17
      go_wp2_with (first | (go_at_call 64; refine (hV.out).mono ?_; rintro e w1 ⟨rfl, hb1⟩; first | (have hk1 := bchain (by assumption) hb1; obtain ⟨hc1, hf1, hz1, hl1⟩ := bcell hk1) | (obtain ⟨hc1, hf1, hz1, hl1⟩ := bcell hb1)) | (go_at_call 79; refine (between_any _ _ _ _).mono ?_; rintro e w' ⟨rfl, rfl⟩) | (go_at_call 80; refine (HPo.out _ ((HR.out.below hb1 (Nat.le_refl _)).more hb1.size)).mono ?_; rintro e w' ⟨rfl, rfl⟩))
      go_ret2
      rw [hs.out]
      exact ⟨_, rfl, World.ownsRow_nil _ _ _ _, (by repeat' (first | exact Below.refl _ _ | (with_reducible assumption) | (with_reducible refine Below.alloc ?_ ?_ _) | (with_reducible refine Below.setCell ?_ ?_ _) | (with_reducible refine Below.drew ?_) | (with_reducible refine below_drewN ?_ _) | (refine Below.trans ?_ (Below.mono (by assumption) ?_)) | (with_reducible exact Nat.le_refl _) | (with_reducible assumption) | (exact Below.size (by assumption)) | omega | go_size | (simp at *; omega)))⟩
  · have k : okP p = false := by simpa using k
    rw [k] at hV
    have hV := hid hV
    have hs : Hid (rThrowsOfProp p kk b = ([], 1)) := by show _ = _; simp [rThrowsOfProp, k]
    clear k hr
    go_enter Try.func17, Try.ntmps17
    go_wp2_with (first | (go_at_call 64; refine (hV.out).mono ?_; rintro e w1 ⟨rfl, hb1⟩; first | (have hk1 := bchain (by assumption) hb1; obtain ⟨hc1, hf1, hz1, hl1⟩ := bcell hk1) | (obtain ⟨hc1, hf1, hz1, hl1⟩ := bcell hb1)))
    go_ret2
    rw [hs.out]
    exact ⟨_, rfl, World.ownsRow_nil _ _ _ _, (by repeat' (first | exact Below.refl _ _ | (with_reducible assumption) | (with_reducible refine Below.alloc ?_ ?_ _) | (with_reducible refine Below.setCell ?_ ?_ _) | (with_reducible refine Below.drew ?_) | (with_reducible refine below_drewN ?_ _) | (refine Below.trans ?_ (Below.mono (by assumption) ?_)) | (with_reducible exact Nat.le_refl _) | (with_reducible assumption) | (exact Below.size (by assumption)) | omega | go_size | (simp at *; omega)))⟩

set_option maxHeartbeats 400000 in
theorem specThrowsOfProp_any (A : Option Addr) (n c : Nat) (p : List Int) (kk b : Int) (w : World) (hn : n ≤ 1099511627776) (hr : Rd w w.heap.size 1 A n (ints p)) :
    Calls Try.prog 15 #[.slice A n c, .int .i64 kk, .int .i64 b] w fun e w' => ∃ v, e = .returned (.tuple #[v, .int .i64 (rThrowsOfProp p kk b).2]) ∧ w'.ownsRow w.heap.size 2 1 v (rThrowsOfProp p kk b).1.length (ints (rThrowsOfProp p kk b).1) ∧ Below w.heap.size w w' := by
  have hV := l02Ok_any A n c p w hn hr
  by_cases k : okP p = true
  · rw [k] at hV
    have hV := hid hV
    have HPo := hid (fun (w1 : World) (h : Rd w1 w1.heap.size 1 A n (ints p)) => l02Props_any A n c p w1 k h)
    have HR := hid hr
    obtain ⟨pb0, pb1⟩ := prN_bd k
    have pb2 := hiT_bd (okP_th k)
    by_cases k2 : betweenB b 0 200 = true
    · by_cases k3 : betweenB kk 0 (prN p - 1) = true
      · obtain ⟨b0, b1⟩ := (betweenB_iff _ _ _).1 k2
        obtain ⟨N, rfl⟩ := Int.eq_ofNat_of_zero_le b0
        have hs : Hid (rThrowsOfProp p kk (N : Int) = (posK kk 0 (prs p N), 0)) := by show _ = _; simp [rThrowsOfProp, k, k2, k3]
        have hl := prs_len p N
        have hst : Hid (([] : List Int) ++ posK kk 0 ((prs p N).drop 0) = posK kk 0 (prs p N)) := by show _ = _; simp
        have hpl := posK_len (k := kk) (prs p N) 0
        have HS := hid (fun (w1 : World) (h : Rd w1 w1.heap.size 1 A n (ints p)) => l13Order_any A n c p N w1 (by omega) k h)
        generalize prs p N = L at *
        generalize posK kk 0 L = R at *
        generalize prN p = P at *
        have hRl : R.length ≤ 200 := by omega
        have hPb : P ≤ 15 := by omega
        have HL := hid hl
        clear hr k hl hpl pb1 pb2
        go_enter Try.func15, Try.ntmps15
        go_wp2_with (first | (go_at_call 75; refine (hV.out).mono ?_; rintro e w1 ⟨rfl, hb1⟩; first | (have hk1 := bchain (by assumption) hb1; obtain ⟨hc1, hf1, hz1, hl1⟩ := bcell hk1) | (obtain ⟨hc1, hf1, hz1, hl1⟩ := bcell hb1)) | (go_at_call 76; refine (l00In_any _ _ _ _).mono ?_; rintro e w' ⟨rfl, rfl⟩) | (go_at_call 77; refine (HPo.out _ ((HR.out.below hb1 (Nat.le_refl _)).more hb1.size)).mono ?_; rintro e w' ⟨rfl, rfl⟩) | (go_at_call 78; refine (HS.out _ ((((HR.out.below hb1 (Nat.le_refl _)).more hb1.size).alloc (Nat.le_refl _) _).more (by simp))).mono ?_; rintro e w2 ⟨v2, rfl, ho2, hb2⟩; obtain ⟨A2, c2, rfl⟩ := own_form ho2; have HO1 := hid (own_below (show (w1.alloc (.cells #[] 2)).ownsRow w1.heap.size 2 1 (.slice (some ⟨w1.heap.size, 0, none⟩) 0 0) 0 [] from World.ownsRow_lit _ _ 0 (Nat.le_refl _) (by simp [maxLen]) rfl) hb2); have hB2 : Hid (Below w1.heap.size w1 w2) := ((Below.refl w1.heap.size w1).alloc (Nat.le_refl _) _).trans (hb2.mono (by simp)); have hz2 : w1.heap.size + 1 ≤ w2.heap.size := (by have := hb2.size; simp at this; exact this); have HO2 := hid (own_more (base' := w1.heap.size + 1) ho2 (by simp)); clear ho2 hb2))
        have hOff : Off (.slice (some ⟨w1.heap.size, 0, none⟩) 0 0) (w1.heap.size + 1) w2.heap.size := fun g h => by
          have h : w1.heap.size = g := by simpa [Value.ownBlock] using h
          omega
        have hMv : Hid (∀ g, (Value.slice A2 N c2).ownBlock = some g → g < w2.heap.size) := fun g h => (HO2.out.lt g h).2
        go_loopw [8, 10] (fun v i wr => ∃ (m : Nat) (out : List Int), m ≤ N ∧ i = .int .i64 m ∧ Hid (out ++ posK kk m (L.drop m) = R) ∧ out.length ≤ 200 ∧ wr.ownsRow w1.heap.size 2 1 v out.length (ints out) ∧ Off v (w1.heap.size + 1) w2.heap.size ∧ wr.ownsRow (w1.heap.size + 1) 2 1 (.slice A2 N c2) N (ints L) ∧ w2.heap.size ≤ wr.heap.size ∧ Below w1.heap.size w1 wr) (fun _ i _ => N - (intOf i).toNat)
        case atStart => exact ⟨0, [], Nat.zero_le _, rfl, hst, Nat.zero_le _, HO1.out, hOff, HO2.out, Nat.le_refl _, hB2.out⟩
        case round =>
          obtain ⟨m, out, hm, rfl, he, hol, ho, hoff, hL, hzw, hb0⟩ := hrel
          clear hOff hst
          have hB := hb0.size
          by_cases hlt : m < N
          · obtain ⟨bk, off, x, rfl, _, hx, hd, hc⟩ := (Rd.of_own hL).at_ hlt
            have he := he.out
            rw [hd] at he
            have HLn := hid hL
            have HOFF := hid hoff
            by_cases hxk : x = kk
            · rw [posK_yes hxk] at he
              have HE : Hid ((out ++ [(m : Int)]) ++ posK kk (m + 1) (L.drop (m + 1)) = R) := by show _ = _; rw [← he]; simp
              have hlen : Hid ((out ++ [(m : Int)]).length ≤ 200) := by
                show _ ≤ _
                have := congrArg List.length HE.out
                rw [List.length_append] at this
                omega
              have hq : (x == kk) = true := by simp [hxk]
              clear he hx hd hxk hL hoff
              go_wp2_with (at_builtin; refine push_int2 ho (m : Int) _ Try.underlying22 inf_int rfl rfl _ _ rfl rfl rfl (by omega) (by omega) ?_; intro v1 w4 ho1 hb4 hg1 hs1)
              go_roundw
              case rel => exact ⟨m + 1, _, by omega, by go_num, HE, hlen.out, ho1, HOFF.out.same hs1 hzw, own_off HLn.out hMv.out HOFF.out hg1, Nat.le_trans hzw hb4.size, (by repeat' (first | exact Below.refl _ _ | (with_reducible assumption) | (with_reducible refine Below.alloc ?_ ?_ _) | (with_reducible refine Below.setCell ?_ ?_ _) | (with_reducible refine Below.drew ?_) | (with_reducible refine below_drewN ?_ _) | (refine Below.trans ?_ (Below.mono (by assumption) ?_)) | (with_reducible exact Nat.le_refl _) | (with_reducible assumption) | (exact Below.size (by assumption)) | omega | go_size | (simp at *; omega)))⟩
              case measure => simp [intOf]; omega
            · rw [posK_not hxk] at he
              have HE := hid he
              have hq : (x == kk) = false := by simpa using hxk
              clear he hx hd hL hoff
              go_wp2
              go_roundw
              case rel => exact ⟨m + 1, _, by omega, by go_num, HE, hol, ho, HOFF.out, HLn.out, hzw, hb0⟩
              case measure => simp [intOf]; omega
          · have he := he.out
            rw [List.drop_eq_nil_of_le (by have := HL.out; omega), posK, List.append_nil] at he
            clear hL hoff
            go_wp2
            go_ret2
            rw [hs.out]
            subst he
            exact ⟨_, rfl, own_more ho hb1.size, bchain hb1 hb0⟩
      · have k3 : betweenB kk 0 (prN p - 1) = false := by simpa using k3
        have hs : Hid (rThrowsOfProp p kk b = ([], 2)) := by show _ = _; simp [rThrowsOfProp, k, k2, k3]
        have hPb : prN p ≤ 15 := by omega
        generalize prN p = P at *
        clear k hr pb1 pb2
        go_enter Try.func15, Try.ntmps15
        go_wp2_with (first | (go_at_call 75; refine (hV.out).mono ?_; rintro e w1 ⟨rfl, hb1⟩; first | (have hk1 := bchain (by assumption) hb1; obtain ⟨hc1, hf1, hz1, hl1⟩ := bcell hk1) | (obtain ⟨hc1, hf1, hz1, hl1⟩ := bcell hb1)) | (go_at_call 76; refine (l00In_any _ _ _ _).mono ?_; rintro e w' ⟨rfl, rfl⟩) | (go_at_call 77; refine (HPo.out _ ((HR.out.below hb1 (Nat.le_refl _)).more hb1.size)).mono ?_; rintro e w' ⟨rfl, rfl⟩))
        go_ret2
        rw [hs.out]
        exact ⟨_, rfl, World.ownsRow_nil _ _ _ _, (by repeat' (first | exact Below.refl _ _ | (with_reducible assumption) | (with_reducible refine Below.alloc ?_ ?_ _) | (with_reducible refine Below.setCell ?_ ?_ _) | (with_reducible refine Below.drew ?_) | (with_reducible refine below_drewN ?_ _) | (refine Below.trans ?_ (Below.mono (by assumption) ?_)) | (with_reducible exact Nat.le_refl _) | (with_reducible assumption) | (exact Below.size (by assumption)) | omega | go_size | (simp at *; omega)))⟩
    · have k2 : betweenB b 0 200 = false := by simpa using k2
      have hs : Hid (rThrowsOfProp p kk b = ([], 2)) := by show _ = _; simp [rThrowsOfProp, k, k2]
      clear k hr pb0 pb1 pb2
      go_enter Try.func15, Try.ntmps15
      go_wp2_with (first | (go_at_call 75; refine (hV.out).mono ?_; rintro e w1 ⟨rfl, hb1⟩; first | (have hk1 := bchain (by assumption) hb1; obtain ⟨hc1, hf1, hz1, hl1⟩ := bcell hk1) | (obtain ⟨hc1, hf1, hz1, hl1⟩ := bcell hb1)) | (go_at_call 76; refine (l00In_any _ _ _ _).mono ?_; rintro e w' ⟨rfl, rfl⟩) | (go_at_call 77; refine (HPo.out _ ((HR.out.below hb1 (Nat.le_refl _)).more hb1.size)).mono ?_; rintro e w' ⟨rfl, rfl⟩))
      go_ret2
      rw [hs.out]
      exact ⟨_, rfl, World.ownsRow_nil _ _ _ _, (by repeat' (first | exact Below.refl _ _ | (with_reducible assumption) | (with_reducible refine Below.alloc ?_ ?_ _) | (with_reducible refine Below.setCell ?_ ?_ _) | (with_reducible refine Below.drew ?_) | (with_reducible refine below_drewN ?_ _) | (refine Below.trans ?_ (Below.mono (by assumption) ?_)) | (with_reducible exact Nat.le_refl _) | (with_reducible assumption) | (exact Below.size (by assumption)) | omega | go_size | (simp at *; omega)))⟩
  · have k : okP p = false := by simpa using k
    rw [k] at hV
    have hV := hid hV
    have hs : Hid (rThrowsOfProp p kk b = ([], 1)) := by show _ = _; simp [rThrowsOfProp, k]
    clear k hr
    go_enter Try.func15, Try.ntmps15
    go_wp2_with (first | (go_at_call 75; refine (hV.out).mono ?_; rintro e w1 ⟨rfl, hb1⟩; first | (have hk1 := bchain (by assumption) hb1; obtain ⟨hc1, hf1, hz1, hl1⟩ := bcell hk1) | (obtain ⟨hc1, hf1, hz1, hl1⟩ := bcell hb1)))
    go_ret2
    rw [hs.out]
    exact ⟨_, rfl, World.ownsRow_nil _ _ _ _, (by repeat' (first | exact Below.refl _ _ | (with_reducible assumption) | (with_reducible refine Below.alloc ?_ ?_ _) | (with_reducible refine Below.setCell ?_ ?_ _) | (with_reducible refine Below.drew ?_) | (with_reducible refine below_drewN ?_ _) | (refine Below.trans ?_ (Below.mono (by assumption) ?_)) | (with_reducible exact Nat.le_refl _) | (with_reducible assumption) | (exact Below.size (by assumption)) | omega | go_size | (simp at *; omega)))⟩

theorem fnExactThrowsOfProp_walk (w : World) (aPA : Option Addr) (aPN aPC : Nat) (aP : List Int) (aPK : Came .i64 w aPA aPN aPC aP) (aProp : Int) (_ : BD aProp) (aBeats : Int) (_ : BD aBeats) :
    Calls Try.prog 3 #[.slice aPA aPN aPC, .int .i64 aProp, .int .i64 aBeats] w fun e w' => e = .returned (.bool true) ∧ Below w.heap.size w w' := by
  by_cases hlong0 : 1048576 < aPN
  · have hmaP := aPK.2.1
    go_enter Try.func3, Try.ntmps3
    go_wp2
    go_ret
    exact ⟨rfl, (by repeat' (first | exact Below.refl _ _ | (with_reducible assumption) | (with_reducible refine Below.alloc ?_ ?_ _) | (with_reducible refine Below.setCell ?_ ?_ _) | (with_reducible refine Below.drew ?_) | (with_reducible refine below_drewN ?_ _) | (refine Below.trans ?_ (Below.mono (by assumption) ?_)) | (with_reducible exact Nat.le_refl _) | (with_reducible assumption) | (exact Below.size (by assumption)) | omega | go_size | (simp at *; omega)))⟩
  have KaP := Rd.of_came aPK
  have KLaP := KaP.len
  have B0aP := hid aPK
  have hS := hid (fun (AaP : Option Addr) (caP : Nat) (w1 : World) (kaP : Rd w1 w1.heap.size 1 AaP aPN (ints aP)) => specThrowsOfProp_any AaP aPN caP aP aProp aBeats w1 (by omega) kaP)
  have hI := hid (fun (AaP : Option Addr) (caP : Nat) (w1 : World) (kaP : Rd w1 w1.heap.size 1 AaP aPN (ints aP)) => ThrowsOfProp_any AaP aPN caP aP aProp aBeats w1 (by omega) kaP)
  have hL := ThrowsOfProp_len aP aProp aBeats
  generalize rThrowsOfProp aP aProp aBeats = r at *
  obtain ⟨r0, r1⟩ := r
  try dsimp only at hL
  have hB := Below.refl w.heap.size w
  go_enter Try.func3, Try.ntmps3
  go_wp2_with (go_at_call 16; refine (toInt64S_any _ _ _ _ _ (by omega) ((KaP.below hB (Nat.le_refl _)).more hB.size)).mono ?_; rintro e w1 ⟨v1, rfl, ho1, hb1⟩; obtain ⟨A1, c1, rfl⟩ := own_form ho1; have l1 := ho1.lt; have s1 := hb1.size; replace hB := bchain hB hb1)
  go_wp2_with (go_at_call 15; refine (hS.out _ _ _ (Rd.of_own ho1)).mono ?_; rintro e w2 ⟨v2, rfl, ho2, hb2⟩; obtain ⟨A2, c2, rfl⟩ := own_form ho2; have l2 := ho2.lt; have s2 := hb2.size; replace hB := bchain hB hb2)
  go_wp2_with (go_at_call 16; refine (toInt64S_any _ _ _ _ _ (by omega) ((KaP.below hB (Nat.le_refl _)).more hB.size)).mono ?_; rintro e w3 ⟨v3, rfl, ho3, hb3⟩; obtain ⟨A3, c3, rfl⟩ := own_form ho3; have l3 := ho3.lt; have s3 := hb3.size; replace hB := bchain hB hb3; replace ho2 := own_below ho2 hb3)
  go_wp2_with (go_at_call 17; refine (hI.out _ _ _ (Rd.of_own ho3)).mono ?_; rintro e w4 ⟨v4, rfl, ho4, hb4⟩; obtain ⟨A4, c4, rfl⟩ := own_form ho4; have l4 := ho4.lt; have s4 := hb4.size; replace hB := bchain hB hb4; replace ho2 := own_below ho2 hb4; replace ho3 := own_below ho3 hb4)
  go_wp2_with (go_at_call 18; refine (eqInt64S_same _ _ _ _ _ _ _ (by omega) (Rd.of_own ho4) (Rd.of_own ho2)).mono ?_; rintro e w5 ⟨rfl, hb5⟩; have s5 := hb5.size; replace hB := bchain hB hb5; replace ho2 := own_below ho2 hb5; replace ho3 := own_below ho3 hb5; replace ho4 := own_below ho4 hb5)
  go_wp2_with (go_at_call 16; refine (toInt64S_any _ _ _ _ _ (by omega) ((KaP.below hB (Nat.le_refl _)).more hB.size)).mono ?_; rintro e w6 ⟨v6, rfl, ho6, hb6⟩; obtain ⟨A6, c6, rfl⟩ := own_form ho6; have l6 := ho6.lt; have s6 := hb6.size; replace hB := bchain hB hb6; replace ho2 := own_below ho2 hb6; replace ho3 := own_below ho3 hb6; replace ho4 := own_below ho4 hb6)
  go_wp2_with (go_at_call 18; refine (eqInt64S_same _ _ _ _ _ _ _ (by omega) (Rd.of_own ho3) (Rd.of_own ho6)).mono ?_; rintro e w7 ⟨rfl, hb7⟩; have s7 := hb7.size; replace hB := bchain hB hb7; replace ho2 := own_below ho2 hb7; replace ho3 := own_below ho3 hb7; replace ho4 := own_below ho4 hb7)
  go_wp2_with (go_at_call 19; refine (markInt64S_any _ _ _ 1 _ _ (by omega) (by omega) ho3).mono ?_; rintro e w8 ⟨rfl, hm8, hg8⟩; have s8 := hg8.size; replace hB := below_grown hB hg8 (fun g h => by have := (l3 g h).1; omega); replace ho2 := own_apart ho2 w2.heap.size (fun g h => by have := (l2 g h).2; omega) (fun g h => by have := (l3 g h).1; omega) hg8; replace ho4 := own_after ho4 w3.heap.size (fun g h => by have := (l4 g h).1; omega) (fun g h => by have := (l3 g h).2; omega) hg8)
  go_wp2_with (go_at_call 18; refine (eqInt64S_same _ _ _ _ _ _ _ (by omega) (Rd.of_own ho4) (Rd.of_own ho2)).mono ?_; rintro e w9 ⟨rfl, hb9⟩; have s9 := hb9.size; replace hB := bchain hB hb9; replace ho2 := own_below ho2 hb9; replace ho4 := own_below ho4 hb9)
  go_wp2_with (go_at_call 19; refine (markInt64S_any _ _ _ 1 _ _ (by omega) (by omega) ho4).mono ?_; rintro e w10 ⟨rfl, hm10, hg10⟩; have s10 := hg10.size; replace hB := below_grown hB hg10 (fun g h => by have := (l4 g h).1; omega); replace ho2 := own_apart ho2 w3.heap.size (fun g h => by have := (l2 g h).2; omega) (fun g h => by have := (l4 g h).1; omega) hg10; replace ho4 := hm10)
  go_wp2_with (go_at_call 20; refine (heldInt64S_any _ _ _ 1 _ (by omega) (by omega) (Rd.of_own ho4)).mono ?_; rintro e w11 ⟨rfl, hb11⟩; have s11 := hb11.size; replace hB := bchain hB hb11; replace ho2 := own_below ho2 hb11; replace ho4 := own_below ho4 hb11)
  go_wp2_with (go_at_call 16; refine (toInt64S_any _ _ _ _ _ (by omega) ((KaP.below hB (Nat.le_refl _)).more hB.size)).mono ?_; rintro e w12 ⟨v12, rfl, ho12, hb12⟩; obtain ⟨A12, c12, rfl⟩ := own_form ho12; have l12 := ho12.lt; have s12 := hb12.size; replace hB := bchain hB hb12; replace ho2 := own_below ho2 hb12; replace ho4 := own_below ho4 hb12)
  go_wp2_with (go_at_call 17; refine (hI.out _ _ _ (Rd.of_own ho12)).mono ?_; rintro e w13 ⟨v13, rfl, ho13, hb13⟩; obtain ⟨A13, c13, rfl⟩ := own_form ho13; have l13 := ho13.lt; have s13 := hb13.size; replace hB := bchain hB hb13; replace ho2 := own_below ho2 hb13; replace ho4 := own_below ho4 hb13)
  go_wp2_with (go_at_call 18; refine (eqInt64S_same _ _ _ _ _ _ _ (by omega) (Rd.of_own ho13) (Rd.of_own ho2)).mono ?_; rintro e w14 ⟨rfl, hb14⟩; have s14 := hb14.size; replace hB := bchain hB hb14; replace ho4 := own_below ho4 hb14)
  go_wp2_with (go_at_call 20; refine (heldInt64S_any _ _ _ 1 _ (by omega) (by omega) (Rd.of_own ho4)).mono ?_; rintro e w15 ⟨rfl, hb15⟩; have s15 := hb15.size; replace hB := bchain hB hb15)
  go_ret
  exact ⟨rfl, (by repeat' (first | exact Below.refl _ _ | (with_reducible assumption) | (with_reducible refine Below.alloc ?_ ?_ _) | (with_reducible refine Below.setCell ?_ ?_ _) | (with_reducible refine Below.drew ?_) | (with_reducible refine below_drewN ?_ _) | (refine Below.trans ?_ (Below.mono (by assumption) ?_)) | (with_reducible exact Nat.le_refl _) | (with_reducible assumption) | (exact Below.size (by assumption)) | omega | go_size | (simp at *; omega)))⟩


end Go.Proofs.Yteaabniemlnjbaa
