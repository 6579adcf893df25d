/- Contracts of the functions that draw orders of hands and their texts. -/
import Derived.Test.YtopakpgmmfkcnaaDw
import Derived.Test.YtopakpgmmfkcnaaCo
import Derived.Test.YtopakpgmmfkcnaaHt
import Derived.Test.YtopakpgmmfkcnaaY
import Derived.Deep.RegionWith
namespace Go.Proofs.Ytopakpgmmfkcnaa
open Go.RowKit
set_option linter.unusedVariables false

/-- All hands below N, and no others. -/
def Hands (N : Nat) (p : List Int) : Prop := (∀ j : Nat, j < N → (j : Int) ∈ p) ∧ ∀ x ∈ p, 0 ≤ x ∧ x < (N : Int)
theorem Hands.ok {N : Nat} {p : List Int} (h : Hands N p) (h1 : 1 ≤ N) (h3 : N ≤ 4) (hl : p.length ≤ 12) : hdOk p = true := by
  have hl1 : 1 ≤ p.length := List.length_pos_of_mem (h.1 0 (by omega))
  have hmx : hdCnt p = (N : Int) := by
    unfold hdCnt
    have h4 := maxF_mem p 0 _ (h.1 (N - 1) (by omega))
    have h5 := (maxF_bd p 0 ((N : Int) - 1) (by omega) (fun x hx => by have := h.2 x hx; omega)).2
    omega
  simp only [hdOk, Bool.and_eq_true, List.all_eq_true, betweenB_iff, hmx, Int.toNat_natCast, List.mem_range, decide_eq_true_eq]
  exact ⟨⟨fun x hx => by have := h.2 x hx; omega, by omega, by omega⟩, fun j hj => h.1 j hj⟩
/-- An order of hands of the call's own. -/
def HdRow (B : Nat) (w : World) (v : Value) : Prop := ∃ p, hdOk p = true ∧ p.length ≤ 12 ∧ w.ownsRow B 2 1 v p.length (ints p)
set_option maxHeartbeats 1000000 in
theorem l14Draw_src (g : Nat) (A : Option Addr) (n c K : Nat) (xs : List Int) (w : World) (hK : K ≤ 1000) (h : Src w g A n c xs K) :
    Calls Try.prog 26 #[.pointer (some ⟨g, 0, none⟩)] w fun e w' => ∃ v, e = .returned v ∧ HdRow w.heap.size w' v ∧ Src w' g A n c xs (K + 40) ∧ w.grownBy w' (some g) := by
  have hgl := h.lt
  have hsx := hid (h.below (B := w.heap.size) ((Below.refl w.heap.size w).alloc (Nat.le_refl _) (Obj.cells #[] 2)) hgl)
  clear h
  go_enter Try.func26, Try.ntmps26
  go_wp2_with fail
  refine (pick_src g A n c K xs 3 _ (by omega) (by omega) hsx.out).mono ?_
  rintro e w1 ⟨⟨m, m0, m1, rfl⟩, hs1, hg1⟩
  obtain ⟨N, hN⟩ : ∃ N : Nat, 1 + m = (N : Int) := ⟨(1 + m).toNat, by omega⟩
  have hN1 : 1 ≤ N := by omega
  have hN2 : N ≤ 3 := by omega
  have hz1 : w.heap.size + 1 ≤ w1.heap.size := by have := hg1.size; simpa using this
  have ho0 : w1.ownsRow w.heap.size 2 1 (.slice (some ⟨w.heap.size, 0, none⟩) 0 0) ([] : List Int).length (ints []) := own_ask (World.ownsRow_lit (base := w.heap.size) w #[] (e := 2) (size := 1) 0 (Nat.le_refl _) (by simp [maxLen]) rfl) hsx.out hg1
  have hgt : w.grownBy w1 (some g) := grown_trans (grown_bl (World.grownBy.refl w (some g)) (B := w.heap.size) ((Below.refl _ _).alloc (Nat.le_refl _) _) (Nat.le_refl _)) hg1
  clear m1 m0 hg1 hsx
  go_wp2
  clear hN
  go_loopw [3, 5] (fun v i wr => Hid (∃ (k : Nat) (out : List Int), i = .int .i64 k ∧ k ≤ N ∧ out.length = k ∧ (∀ j : Nat, j < k → (j : Int) ∈ out) ∧ (∀ x ∈ out, 0 ≤ x ∧ x < (N : Int)) ∧ Src wr g A n c xs (K + 2) ∧ wr.ownsRow w.heap.size 2 1 v out.length (ints out) ∧ w.grownBy wr (some g))) (fun _ i _ => N - (intOf i).toNat)
  case atStart => exact hid ⟨0, [], rfl, by omega, rfl, (fun j hj => by omega), (fun x hx => by cases hx), hs1, ho0, hgt⟩
  case round =>
    clear hs1 ho0 hgt hz1
    obtain ⟨k, out, rfl, hk, hol, hin, hbd, hs, ho, hg⟩ := hrel.out
    clear hrel
    have hz := hg.size
    have hol12 : out.length ≤ 3 := by omega
    by_cases hlt : k < N
    · have HI := hid hin
      have HB := hid hbd
      have HL := hid hol
      clear hin hbd hol
      go_wp2_with (at_builtin; refine push_int ho ((k : Int)) _ Try.underlying24 inf_int rfl rfl _ _ rfl rfl rfl (by omega) (by omega) ?_; intro v1 w1 ho1 hb1 hg1)
      go_roundw
      case rel => exact hid ⟨k + 1, out ++ [(k : Int)], by go_num, by omega, by rw [List.length_append, HL.out]; rfl, (fun j hj => by
        rcases Nat.lt_or_eq_of_le (Nat.le_of_lt_succ hj) with h | h
        · exact List.mem_append.2 (.inl (HI.out j h))
        · subst h; exact List.mem_append.2 (.inr List.mem_cons_self)), (fun x hx => by
        rcases List.mem_append.1 hx with h | h
        · exact HB.out x h
        · simp at h; subst h; omega), hs.below hb1 hgl, ho1, grown_bl hg hb1 (Nat.le_refl _)⟩
      case measure => simp [intOf]; omega
    · obtain rfl : k = N := by omega
      have HH : Hid (Hands k out) := ⟨hin, hbd⟩
      clear hin hbd
      have hol2 : out.length ≤ 3 := by omega
      have HL := hid hol
      clear hol
      go_wp2_with fail
      refine (pick_src g A n c (K + 2) xs 4 wr (by omega) (by omega) hs).mono ?_
      rintro e w2 ⟨⟨z, z0, z1, rfl⟩, hs2, hg2⟩
      have ho2 := own_ask ho hs hg2
      have hgg2 := grown_trans hg hg2
      have hz4 : z ≤ 3 := by omega
      clear z1 hs hg hg2 ho
      go_wp2
      go_loopw [3, 6] (fun v i wr => Hid (∃ (q : Int) (out : List Int) (K2 : Nat), i = .int .i64 q ∧ 0 ≤ q ∧ (out.length : Int) + q ≤ 6 ∧ 1 ≤ out.length ∧ (K2 : Int) + 4 * q ≤ K + 20 ∧ Hands k out ∧ Src wr g A n c xs K2 ∧ wr.ownsRow w.heap.size 2 1 v out.length (ints out) ∧ w.grownBy wr (some g))) (fun _ i _ => (intOf i).toNat)
      case atStart => exact hid ⟨z, out, K + 4, rfl, z0, by omega, by have := HL.out; omega, by omega, HH.out, hs2, ho2, hgg2⟩
      case round =>
        clear hs2 ho2 hgg2 z0 hz4 HH HL hol2 hz
        obtain ⟨q, out, K2, rfl, hq0, hol, hol1, hK2, hH, hs, ho, hg⟩ := hrel.out
        clear hrel
        have hz := hg.size
        have HH := hid hH
        clear hH
        by_cases hlt : 0 < q
        · obtain ⟨g6, c6, rfl, hg6, hg6b⟩ := own_block ho (by omega)
          have hc6 : out.length ≤ c6 := by
            obtain ⟨_, _, e, _, hc⟩ := own_form2 ho
            injection e with _ _ e3
            rw [e3]; exact hc
          go_wp2_with fail
          refine (pick_src g A n c K2 xs ((out.length : Int) + 1) wr (by omega) (by omega) hs).mono ?_
          rintro e w3 ⟨⟨x, x0, x1, rfl⟩, hs3, hg3⟩
          obtain ⟨a, rfl⟩ := Int.eq_ofNat_of_zero_le x0
          have ha : a ≤ out.length := by omega
          have ho3 := own_ask ho hs hg3
          have hgg3 := grown_trans hg hg3
          have hz3 := hgg3.size
          clear hs hg hg3 ho x1
          have hg6w3 : g6 < w3.heap.size := (ho3.lt g6 rfl).2
          have hR1 : Rd w3 w3.heap.size 1 (some ⟨g6, 0, none⟩) a (ints (out.take a)) := by
            have := Rd.cut (Rd.of_own ho3) (Nat.zero_le a) ha
            simpa using this
          have hti : (out.take a).length = a := by rw [List.length_take]; omega
          have HOW := hid ((l00Own_any (some ⟨g6, 0, none⟩) a c6 (out.take a) w3 (by omega) (fun h => by cases h) hR1).mono (fun e w'' h => show ∃ A c, e = .returned (.slice A a c) ∧ w''.ownsRow w3.heap.size 2 1 (.slice A a c) (out.take a).length (ints (out.take a)) ∧ Below w3.heap.size w3 w'' by
            obtain ⟨v, h1, h2, h3⟩ := h
            obtain ⟨A, c, rfl⟩ := own_form h2
            exact ⟨A, c, h1, by rw [hti]; exact h2, h3⟩))
          have f1 : (a : Int) ≤ (c6 : Int) := by omega
          have f2 : (0 : Int) ≤ (a : Int) := by omega
          have f3 : (a : Int) ≤ (out.length : Int) := by omega
          have f5 : a ≤ c6 := by omega
          have htl : (out.take a).length ≤ 12 := by omega
          have HTI := hid hti
          clear hR1 hti
          go_wp2_with fail
          refine HOW.out.mono ?_
          rintro e w4 ⟨A4, c4, rfl, ho4, hb4⟩
          have hs4 := hs3.below hb4 (by omega)
          have hgg4 := grown_bl hgg3 hb4 hz3
          have ho34 := own_below ho3 hb4
          clear HOW hs3 hgg3 ho3
          go_wp2_with fail
          refine (pick_src g A n c (K2 + 2) xs (k : Int) w4 (by omega) (by omega) hs4).mono ?_
          rintro e w5 ⟨⟨y, y0, y1, rfl⟩, hs5, hg5⟩
          have ho5 := own_ask ho4 hs4 hg5
          have ho35 := own_ask ho34 hs4 hg5
          have hgg5 := grown_trans hgg4 hg5
          have hz5 := hg5.size
          have hz4 := hb4.size
          have hyk : y < (k : Int) := by omega
          clear hs4 hgg4 hg5 ho4 ho34 y1
          have HM : Hid (Hands k (out.take a ++ [y] ++ out.drop a)) := ⟨(fun j hj => by
            have h1 := HH.out.1 j hj
            rw [← List.take_append_drop a out] at h1
            rcases List.mem_append.1 h1 with h | h
            · exact List.mem_append.2 (.inl (List.mem_append.2 (.inl h)))
            · exact List.mem_append.2 (.inr h)), (fun x hx => by
            rcases List.mem_append.1 hx with h | h
            · rcases List.mem_append.1 h with h | h
              · exact HH.out.2 x (List.mem_of_mem_take h)
              · simp at h; subst h; omega
            · exact HH.out.2 x (List.mem_of_mem_drop h))⟩
          have HML : Hid ((out.take a ++ [y] ++ out.drop a).length = out.length + 1) := by
            show _ = _
            simp; omega
          have hR2g := hid (fun (w6 : World) (b : Below w3.heap.size w5 w6) (hlo : w6.ownsRow w.heap.size 2 1 (.slice (some ⟨g6, 0, none⟩) out.length c6) out.length (ints out)) => show Rd w6 w6.heap.size 1 (some ⟨g6, a, none⟩) (out.length - a) (ints (out.drop a)) from by
            have := Rd.cut (Rd.of_own hlo) ha (Nat.le_refl _)
            simpa using this)
          have HTY : Hid ((out.take a ++ [y]).length = a + 1) := by show _ = _; rw [List.length_append, HTI.out]; rfl
          rcases Nat.lt_or_ge a c6 with hck | hck
          · have hck' : ¬ c6 = a := by omega
            go_wp2_with (first
              | (at_builtin; refine push_int ho5 y _ Try.underlying24 inf_int rfl rfl _ _ rfl rfl rfl (by omega) (by omega) ?_; intro v6 w6 ho6 hb6 hg6x; have ho36 := own_low ho35 hb6 (fun g h => by have h : g6 = g := (by simpa [Value.ownBlock] using h); omega); have hR2 := hR2g.out w6 hb6 ho36; have hz6 := hb6.size; rw [HTY.out] at ho6; obtain ⟨A6, c66, rfl⟩ := own_form ho6)
              | (at_builtin; refine app_ints (xs := out.take a ++ [y]) (by rw [HTY.out]; exact ho6) _ _ _ (out.drop a) hR2 (fun h => by cases h) Try.underlying24 inf_int rfl rfl _ _ rfl rfl rfl (by rw [HTY.out]; omega) (by omega) ?_; intro v7 w7 ho7 hb7 hg7))
            have hb67 : Below w3.heap.size w5 w7 := hb6.trans hb7
            go_roundw
            case rel => exact hid ⟨q - 1, out.take a ++ [y] ++ out.drop a, K2 + 4, by go_num, by omega, by rw [HML.out]; omega, by rw [HML.out]; omega, by omega, HM.out, hs5.below hb67 (by omega), own_more ho7 (by omega), grown_bl hgg5 hb67 (by omega)⟩
            case measure => simp [intOf]; omega
          · have hck' : c6 = a := by omega
            subst hck'
            have hde : Hid (out.drop c6 = []) := by show _ = _; exact List.drop_eq_nil_of_le (by omega)
            go_wp2_with (first
              | (at_builtin; refine push_int ho5 y _ Try.underlying24 inf_int rfl rfl _ _ rfl rfl rfl (by omega) (by omega) ?_; intro v6 w6 ho6 hb6 hg6x; have ho36 := own_low ho35 hb6 (fun g h => by have h : g6 = g := (by simpa [Value.ownBlock] using h); omega); have hR2 := hR2g.out w6 hb6 ho36; have hz6 := hb6.size; rw [HTY.out] at ho6; obtain ⟨A6, c66, rfl⟩ := own_form ho6)
              | (at_builtin; refine app_ints (xs := out.take c6 ++ [y]) (by rw [HTY.out]; exact ho6) _ _ _ [] (show Rd _ w3.heap.size 1 (some ⟨g6, 0, none⟩) 0 (ints []) from ⟨rfl, fun h => absurd h (by omega)⟩) (fun h => by cases h) Try.underlying24 inf_int rfl rfl _ _ rfl rfl rfl (by rw [HTY.out]; omega) (by omega) ?_; intro v7 w7 ho7 hb7 hg7; have ho7 : w7.ownsRow w3.heap.size 2 1 v7 (out.take c6 ++ [y] ++ out.drop c6).length (ints (out.take c6 ++ [y] ++ out.drop c6)) := (by rw [hde.out]; rw [List.append_nil] at *; exact ho7)))
            have hb67 : Below w3.heap.size w5 w7 := hb6.trans hb7
            go_roundw
            case rel => exact hid ⟨q - 1, out.take c6 ++ [y] ++ out.drop c6, K2 + 4, by go_num, by omega, by rw [HML.out]; omega, by rw [HML.out]; omega, by omega, HM.out, hs5.below hb67 (by omega), own_more ho7 (by omega), grown_bl hgg5 hb67 (by omega)⟩
            case measure => simp [intOf]; omega
        · go_wp2
          go_ret
          exact ⟨_, rfl, ⟨out, HH.out.ok (by omega) (by omega) (by omega), by omega, ho⟩, hs.more (by omega), hg⟩
theorem f6big_any (A : Option Addr) (n c : Nat) (w : World) (hn : n ≤ 9223372036854775807) :
    Calls Try.prog 5 #[.slice A n c] w fun e w' => e = .returned (.bool (decide (4096 < n))) ∧ w = w' := by
  go_enter Try.func5, Try.ntmps5
  go_wp2
  go_ret
  exact ⟨ret_bool (by first | (simp; done) | (rw [Bool.eq_iff_iff]; simp; omega)), rfl⟩
theorem f6ints_any (A A' : Option Addr) (n n' c c' : Nat) (xs ys : List Int) (w : World) (hn : n ≤ 1099511627776) (hn' : n' ≤ 1099511627776) (h : Rd w w.heap.size 1 A n (ints xs)) (h' : Rd w w.heap.size 1 A' n' (ints ys)) :
    Calls Try.prog 12 #[.slice A n c, .slice A' n' c'] w fun e w' => e = .returned (.bool (decide (xs = ys))) ∧ Below w.heap.size w w' := by
  have hl := h.len
  have hl' := h'.len
  by_cases hnn : n = n'
  · subst hnn
    have hst : Hid (decide (xs.drop 0 = ys.drop 0) = decide (xs = ys)) := rfl
    go_enter Try.func12, Try.ntmps12
    go_wp2
    go_loopw [5] (fun i wr => ∃ k : Nat, k ≤ n ∧ i = .int .i64 k ∧ Hid (decide (xs.drop k = ys.drop k) = decide (xs = ys)) ∧ Below w.heap.size w wr) (fun i _ => n - (intOf i).toNat)
    case atStart => exact ⟨0, Nat.zero_le _, rfl, hst, Below.refl _ _⟩
    case round =>
    obtain ⟨k, hk, rfl, he, hb0⟩ := hrel
    by_cases hlt : k < n
    · obtain ⟨b, off, x, rfl, hb, hx, hd, hc⟩ := (h.below hb0 (Nat.le_refl _)).at_ hlt
      obtain ⟨b', off', x', rfl, hb', hx', hd', hc'⟩ := (h'.below hb0 (Nat.le_refl _)).at_ hlt
      by_cases hxx : x = x'
      · have hq : (x != x') = false := by simp [hxx]
        have HZ : Hid (decide (xs.drop (k + 1) = ys.drop (k + 1)) = decide (xs = ys)) := by
          show _ = _
          rw [← he.out, hd, hd', hxx]; simp
        clear hx hx' hd hd' he hst h h' hb hb' hl hl' hxx
        go_wp2
        go_quiet (fail)
        go_wp2
        go_roundw
        case rel => exact ⟨k + 1, by omega, by go_num, HZ, (by repeat' (first | exact Below.refl _ _ | (with_reducible assumption) | (with_reducible refine Below.alloc ?_ ?_ _) | (with_reducible refine Below.setCell ?_ ?_ _) | (with_reducible refine Below.drew ?_) | (with_reducible refine below_drewN ?_ _) | (refine Below.trans ?_ (Below.mono (by assumption) ?_)) | (with_reducible exact Nat.le_refl _) | (with_reducible assumption) | (exact Below.size (by assumption)) | omega | go_size | (simp at *; omega)))⟩
        case measure => simp [intOf]; omega
      · have hq : (x != x') = true := by simpa using hxx
        have HZ : Hid (decide (xs = ys) = false) := by
          show _ = _
          rw [← he.out, hd, hd']; simp [hxx]
        clear hx hx' hd hd' he hst h h' hb hb' hl hl' hxx
        go_wp2
        go_quiet (fail)
        go_wp2
        go_ret
        exact ⟨ret_bool HZ.out.symm, (by repeat' (first | exact Below.refl _ _ | (with_reducible assumption) | (with_reducible refine Below.alloc ?_ ?_ _) | (with_reducible refine Below.setCell ?_ ?_ _) | (with_reducible refine Below.drew ?_) | (with_reducible refine below_drewN ?_ _) | (refine Below.trans ?_ (Below.mono (by assumption) ?_)) | (with_reducible exact Nat.le_refl _) | (with_reducible assumption) | (exact Below.size (by assumption)) | omega | go_size | (simp at *; omega)))⟩
    · have HZ : Hid (decide (xs = ys) = true) := by
        show _ = _
        rw [← he.out, List.drop_eq_nil_of_le (by omega), List.drop_eq_nil_of_le (by omega)]; rfl
      clear he hst hl hl' h h'
      go_wp2
      go_ret
      exact ⟨ret_bool HZ.out.symm, (by repeat' (first | exact Below.refl _ _ | (with_reducible assumption) | (with_reducible refine Below.alloc ?_ ?_ _) | (with_reducible refine Below.setCell ?_ ?_ _) | (with_reducible refine Below.drew ?_) | (with_reducible refine below_drewN ?_ _) | (refine Below.trans ?_ (Below.mono (by assumption) ?_)) | (with_reducible exact Nat.le_refl _) | (with_reducible assumption) | (exact Below.size (by assumption)) | omega | go_size | (simp at *; omega)))⟩
  · have HZ : Hid (decide (xs = ys) = false) := by
      show _ = _
      refine decide_eq_false fun e => hnn ?_
      rw [← hl, ← hl', e]
    clear hl hl' h h'
    go_enter Try.func12, Try.ntmps12
    go_wp2
    go_ret
    exact ⟨ret_bool HZ.out.symm, (by repeat' (first | exact Below.refl _ _ | (with_reducible assumption) | (with_reducible refine Below.alloc ?_ ?_ _) | (with_reducible refine Below.setCell ?_ ?_ _) | (with_reducible refine Below.drew ?_) | (with_reducible refine below_drewN ?_ _) | (refine Below.trans ?_ (Below.mono (by assumption) ?_)) | (with_reducible exact Nat.le_refl _) | (with_reducible assumption) | (exact Below.size (by assumption)) | omega | go_size | (simp at *; omega)))⟩

theorem three_any (w : World) (t : TypeId) : ∀ i, i < 3 → ∃ y : Int, (w.alloc (Obj.cells #[.int .i64 (-1), .int .i64 3, .int .i64 4] t)).cell? ⟨w.heap.size, 0 + i, none⟩ = some (.int .i64 y) := by
  intro i hi
  rw [World.cell?_alloc_at _ _ _ _ rfl]
  match i, hi with
  | 0, _ => exact ⟨_, rfl⟩
  | 1, _ => exact ⟨_, rfl⟩
  | 2, _ => exact ⟨_, rfl⟩
theorem hd_len {p : List Int} (h : hdOk p = true) : 1 ≤ p.length := by
  simp only [hdOk, Bool.and_eq_true, betweenB_iff] at h
  omega
set_option maxHeartbeats 1000000 in
theorem l14Bent_src (g : Nat) (A : Option Addr) (n c K : Nat) (xs : List Int) (w : World) (hK : K ≤ 500) (h : Src w g A n c xs K) :
    Calls Try.prog 23 #[.pointer (some ⟨g, 0, none⟩)] w fun e w' => ∃ v, e = .returned v ∧ AnyRow w.heap.size w' v ∧ Src w' g A n c xs (K + 100) ∧ w.grownBy w' (some g) := by
  have hgl := h.lt
  have hP := hid (l14Draw_src g A n c K xs w (by omega) h)
  clear h
  go_enter Try.func23, Try.ntmps23
  go_wp2_with fail
  refine hP.out.mono ?_
  rintro e w1 ⟨v1, rfl, ⟨p, hp, hpl, ho1⟩, hs1, hg1⟩
  have hp1 := hd_len hp
  obtain ⟨gp, cp, rfl, hgp, hgp1⟩ := own_block ho1 (by omega)
  have hz1 := hg1.size
  clear hP hp
  go_wp2_with fail
  refine (pick_src g A n c (K + 40) xs (p.length : Int) w1 (by omega) (by omega) hs1).mono ?_
  rintro e w2 ⟨⟨x, x0, x1, rfl⟩, hs2, hg2⟩
  obtain ⟨a, rfl⟩ := Int.eq_ofNat_of_zero_le x0
  have ha : a < p.length := by omega
  have ho2 := own_ask ho1 hs1 hg2
  have hgg2 := grown_trans hg1 hg2
  have hz2 := hg2.size
  clear x1 hs1 hg1 hg2 ho1
  go_wp2_with fail
  refine (pick_src g A n c (K + 42) xs 16 w2 (by omega) (by omega) hs2).mono ?_
  rintro e w3 ⟨⟨y, y0, y1, rfl⟩, hs3, hg3⟩
  have ho3 := own_ask ho2 hs2 hg3
  have hgg3 := grown_trans hgg2 hg3
  have hz3 := hg3.size
  clear hs2 hgg2 hg3 ho2
  by_cases c0 : y = 0
  · subst c0
    go_wp2_with fail
    have hs3a : Src (w3.alloc (Obj.cells #[.int .i64 (-1), .int .i64 3, .int .i64 4] 2)) g A n c xs (K + 44) := hs3.below (B := w3.heap.size) ((Below.refl _ _).alloc (Nat.le_refl _) _) (by omega)
    have hg3a : w.grownBy (w3.alloc (Obj.cells #[.int .i64 (-1), .int .i64 3, .int .i64 4] 2)) (some g) := grown_bl hgg3 (B := w3.heap.size) ((Below.refl _ _).alloc (Nat.le_refl _) _) (by omega)
    have ho3a := ho3.alloc (Obj.cells #[.int .i64 (-1), .int .i64 3, .int .i64 4] 2)
    refine (among_src g A n c (K + 44) xs w3.heap.size 0 3 3 _ (by omega) (by omega) (by simp) (by omega) (by omega) (three_any w3 _) hs3a).mono ?_
    rintro e w4 ⟨⟨z, rfl⟩, hs4, hg4⟩
    have ho4 := own_ask ho3a hs3a hg4
    have hgg4 := grown_trans hg3a hg4
    have hz4 := hg4.size
    obtain ⟨u4, hc4⟩ : ∃ u, w4.cell? ⟨gp, a, none⟩ = some u := by
      rw [ho4.cellAt a (by omega)]
      exact ⟨_, ints_at ha⟩
    have hf4 := ho4.frozenAt a
    obtain ⟨ho5, hg5⟩ := ho4.stored a (.int .i64 z)
    rw [ints_setD] at ho5
    have hb5 : Below w.heap.size w4 (w4.setCell ⟨gp, a, none⟩ (.int .i64 z)) := (by repeat' (first | exact Below.refl _ _ | (with_reducible assumption) | (with_reducible refine Below.alloc ?_ ?_ _) | (with_reducible refine Below.setCell ?_ ?_ _) | (with_reducible refine Below.drew ?_) | (with_reducible refine below_drewN ?_ _) | (refine Below.trans ?_ (Below.mono (by assumption) ?_)) | (with_reducible exact Nat.le_refl _) | (with_reducible assumption) | (exact Below.size (by assumption)) | omega | go_size | (simp at *; omega)))
    have HO5 := hid ho5
    clear ho3 ho3a hs3a hg3a hg4 ho4 ho5 hg5
    go_wp2
    go_ret
    exact ⟨_, rfl, ⟨p.set a z, by rw [List.length_set]; omega, by rw [List.length_set]; exact HO5.out⟩, (hs4.below hb5 hgl).more (by omega), grown_bl hgg4 hb5 (Nat.le_refl _)⟩
  · by_cases c1 : y = 1
    · subst c1
      go_wp2
      go_ret
      exact ⟨_, rfl, ⟨[], by simp, World.ownsRow_lit (base := w.heap.size) w3 #[] (e := 2) (size := 1) 0 (by omega) (by simp [maxLen]) rfl⟩, (hs3.below (B := w3.heap.size) ((Below.refl _ _).alloc (Nat.le_refl _) _) (by omega)).more (by omega), grown_bl hgg3 (B := w3.heap.size) ((Below.refl _ _).alloc (Nat.le_refl _) _) (by omega)⟩
    · by_cases c2 : y = 2
      · subst c2
        go_wp2_with fail
        refine (pick_src g A n c (K + 44) xs 2 w3 (by omega) (by omega) hs3).mono ?_
        rintro e w4 ⟨⟨z, z0, z1, rfl⟩, hs4, hg4⟩
        have hgg4 := grown_trans hgg3 hg4
        have hz4 := hg4.size
        obtain ⟨N, hN⟩ : ∃ N : Nat, 12 + z = (N : Int) := ⟨(12 + z).toNat, by omega⟩
        have hN2 : N ≤ 13 := by omega
        clear ho3 hs3 hgg3 hg4 z0 z1
        go_wp2_with (at_make; refine make_own w4.heap.size Try.underlying24 inf_int rfl rfl (.tmp 28) (.tmp 28) rfl .i64 .i64 N rfl rfl (by omega) (by omega) (Nat.le_refl _) ?_; intro w5 ho5 hb5 hlt5)
        go_ret
        refine ⟨_, rfl, ⟨List.replicate N 0, by rw [List.length_replicate]; exact hN2, ?_⟩, (hs4.below hb5 (by omega)).more (by omega), grown_bl hgg4 hb5 (by omega)⟩
        rw [List.length_replicate]
        have e : ints (List.replicate N 0) = List.replicate N (Value.int .i64 0) := by simp [ints]
        rw [e]
        exact own_more ho5 (by omega)
      · go_wp2
        go_ret
        exact ⟨_, rfl, ⟨p, by omega, ho3⟩, hs3.more (by omega), hgg3⟩
theorem DrawHandsText_any (A : Option Addr) (n c : Nat) (xs : List Int) (w : World) (hn : n ≤ 1099511627776) (hx : ∀ x ∈ xs, 0 ≤ x ∧ x ≤ 255) (hr : Rd w w.heap.size 1 A n (xs.map (Value.int .u8))) :
    Calls Try.prog 6 #[.slice A n c] w fun e w' => ∃ v, e = .returned v ∧ AnyRow w.heap.size w' v ∧ Below w.heap.size w w' := by
  have h0 := hid (l00From_any A n c xs w hn hx hr)
  clear hx hr
  go_enter Try.func6, Try.ntmps6
  go_wp2_with fail
  refine h0.out.mono ?_
  rintro e w1 ⟨rfl, hs1, hb1⟩
  have z1 := hb1.size
  have l1 := hs1.lt
  clear h0
  go_wp2_with fail
  refine (l14Bent_src _ A n c 0 xs w1 (by omega) hs1).mono ?_
  rintro e w2 ⟨v2, rfl, ⟨p, hp, ho2⟩, hs2, hg2⟩
  have hB2 : Below w.heap.size w w2 := hb1.grown hg2 z1 (fun g h => by simp at h; omega)
  go_wp2
  go_ret
  exact ⟨_, rfl, ⟨p, hp, own_more ho2 (by omega)⟩, hB2⟩
theorem seven_any (w : World) (b : Nat) (hb : b = w.heap.size) (t : TypeId) : ∀ i, i < 7 → ∃ y : ByteArray, y.size ≤ 12 ∧ (w.alloc (Obj.cells #[.string ⟨#[32]⟩, .string ⟨#[48]⟩, .string ⟨#[45]⟩, .string ⟨#[120]⟩, .string ⟨#[49]⟩, .string ⟨#[57]⟩, .string ⟨#[46]⟩] t)).cell? ⟨b, 0 + i, none⟩ = some (.string y) := by
  intro i hi
  subst hb
  rw [World.cell?_alloc_at _ _ _ _ rfl]
  match i, hi with
  | 0, _ => refine ⟨_, ?_, rfl⟩; decide
  | 1, _ => refine ⟨_, ?_, rfl⟩; decide
  | 2, _ => refine ⟨_, ?_, rfl⟩; decide
  | 3, _ => refine ⟨_, ?_, rfl⟩; decide
  | 4, _ => refine ⟨_, ?_, rfl⟩; decide
  | 5, _ => refine ⟨_, ?_, rfl⟩; decide
  | 6, _ => refine ⟨_, ?_, rfl⟩; decide
theorem seven_drew (w : World) (t : TypeId) : ∀ i, i < 7 → ∃ y : ByteArray, y.size ≤ 12 ∧ (w.alloc (Obj.cells #[.string ⟨#[32]⟩, .string ⟨#[48]⟩, .string ⟨#[45]⟩, .string ⟨#[120]⟩, .string ⟨#[49]⟩, .string ⟨#[57]⟩, .string ⟨#[46]⟩] t)).drew.cell? ⟨w.heap.size, 0 + i, none⟩ = some (.string y) := seven_any w _ rfl t
theorem toList_ne {t : ByteArray} (h : ¬ t.size = 0) : t.toList.isEmpty = false := by
  rw [ByteArray.toList_eq]
  cases e : t.data.toList with
  | nil =>
    exfalso
    have h2 : t.data.toList.length = 0 := by rw [e]; rfl
    rw [Array.length_toList] at h2
    exact h h2
  | cons x xs => rfl
/-- A text that is not long. -/
def StrRes (e : Ending) : Prop := ∃ s : ByteArray, s.size ≤ 100 ∧ e = .returned (.string s)
set_option maxHeartbeats 1000000 in
theorem l01Spoil_src (g : Nat) (A : Option Addr) (n c K : Nat) (xs : List Int) (t : ByteArray) (w : World) (hK : K ≤ 500) (ht : t.size ≤ 20) (h : Src w g A n c xs K) :
    Calls Try.prog 28 #[.pointer (some ⟨g, 0, none⟩), .string t] w fun e w' => StrRes e ∧ Src w' g A n c xs (K + 10) ∧ w.grownBy w' (some g) := by
  have hgl := h.lt
  have hP := hid (pick_src g A n c K xs 5 w (by omega) (by omega) h)
  clear h
  go_enter Try.func28, Try.ntmps28
  go_wp2_with fail
  refine hP.out.mono ?_
  rintro e w1 ⟨⟨x, x0, x1, rfl⟩, hs1, hg1⟩
  have hz1 := hg1.size
  clear hP
  by_cases c0 : x = 0
  · subst c0
    go_wp2_with fail
    refine (pick_src g A n c (K + 2) xs ((t.size : Int) + 1) w1 (by omega) (by omega) hs1).mono ?_
    rintro e w2 ⟨⟨y, y0, y1, rfl⟩, hs2, hg2⟩
    obtain ⟨a, rfl⟩ := Int.eq_ofNat_of_zero_le y0
    have ha : a ≤ t.size := by omega
    have f1 : (a : Int) ≤ (t.size : Int) := by omega
    have hgg2 := grown_trans hg1 hg2
    have hz2 := hgg2.size
    clear hs1 hg1 hg2 y1
    go_wp2
    go_region_with (go_at_call 45; refine (text_src g A n c (K + 4) xs w2.heap.size 0 7 7 _ (by omega) (by omega) (by simp) (by omega) (by omega) (seven_drew w2 _) (hs2.below (B := w2.heap.size) (by repeat' (first | exact Below.refl _ _ | (with_reducible assumption) | (with_reducible refine Below.alloc ?_ ?_ _) | (with_reducible refine Below.setCell ?_ ?_ _) | (with_reducible refine Below.drew ?_) | (with_reducible refine below_drewN ?_ _) | (refine Below.trans ?_ (Below.mono (by assumption) ?_)) | (with_reducible exact Nat.le_refl _) | (with_reducible assumption) | (exact Below.size (by assumption)) | omega | go_size | (simp at *; omega))) (by omega))).mono ?_; rintro e w3 ⟨⟨z, hz, rfl⟩, hs3, hg3⟩)
    all_goals
      go_simp
      go_wp2
      go_ret
      exact ⟨⟨_, by simp only [ByteArray.size_append, ByteArray.size_extract]; omega, rfl⟩, hs3.more (by omega), grown_trans (grown_bl hgg2 (B := w2.heap.size) (by repeat' (first | exact Below.refl _ _ | (with_reducible assumption) | (with_reducible refine Below.alloc ?_ ?_ _) | (with_reducible refine Below.setCell ?_ ?_ _) | (with_reducible refine Below.drew ?_) | (with_reducible refine below_drewN ?_ _) | (refine Below.trans ?_ (Below.mono (by assumption) ?_)) | (with_reducible exact Nat.le_refl _) | (with_reducible assumption) | (exact Below.size (by assumption)) | omega | go_size | (simp at *; omega))) hz2) hg3⟩
  · by_cases c1 : x = 1
    · subst c1
      by_cases ht0 : t.size = 0
      · have hte : t = ⟨#[]⟩ := by
          obtain ⟨d⟩ := t
          have hd : d.size = 0 := ht0
          rw [Array.eq_empty_of_size_eq_zero hd]
        subst hte
        go_wp2
        go_ret
        exact ⟨⟨_, by omega, rfl⟩, hs1.more (by omega), hg1⟩
      · have hq1 : t.toList.isEmpty = false := toList_ne ht0
        go_wp2_with fail
        refine (pick_src g A n c (K + 2) xs (t.size : Int) w1 (by omega) (by omega) hs1).mono ?_
        rintro e w2 ⟨⟨y, y0, y1, rfl⟩, hs2, hg2⟩
        obtain ⟨a, rfl⟩ := Int.eq_ofNat_of_zero_le y0
        have ha : a < t.size := by omega
        have f1 : (a : Int) ≤ (t.size : Int) := by omega
        have f2 : (a : Int) + 1 ≤ (t.size : Int) := by omega
        have hgg2 := grown_trans hg1 hg2
        clear hs1 hg1 hg2 y1
        go_wp2
        go_quiet (fail)
        go_wp2
        go_ret
        exact ⟨⟨_, by simp only [ByteArray.size_append, ByteArray.size_extract]; omega, rfl⟩, (show Src (w2.drewN nq) g A n c xs (K + 4) from hs2).more (by omega), grown_bl hgg2 (B := w.heap.size) (by repeat' (first | exact Below.refl _ _ | (with_reducible assumption) | (with_reducible refine Below.alloc ?_ ?_ _) | (with_reducible refine Below.setCell ?_ ?_ _) | (with_reducible refine Below.drew ?_) | (with_reducible refine below_drewN ?_ _) | (refine Below.trans ?_ (Below.mono (by assumption) ?_)) | (with_reducible exact Nat.le_refl _) | (with_reducible assumption) | (exact Below.size (by assumption)) | omega | go_size | (simp at *; omega))) (Nat.le_refl _)⟩
    · go_wp2
      go_ret
      exact ⟨⟨t, by omega, rfl⟩, hs1.more (by omega), hg1⟩
theorem DrawReadHands_any (A : Option Addr) (n c : Nat) (xs : List Int) (w : World) (hn : n ≤ 1099511627776) (hx : ∀ x ∈ xs, 0 ≤ x ∧ x ≤ 255) (hr : Rd w w.heap.size 1 A n (xs.map (Value.int .u8))) :
    Calls Try.prog 9 #[.slice A n c] w fun e w' => StrRes e ∧ Below w.heap.size w w' := by
  have h0 := hid (l00From_any A n c xs w hn hx hr)
  clear hx hr
  go_enter Try.func9, Try.ntmps9
  go_wp2_with fail
  refine h0.out.mono ?_
  rintro e w1 ⟨rfl, hs1, hb1⟩
  have z1 := hb1.size
  have l1 := hs1.lt
  clear h0
  go_wp2_with fail
  refine (l14Draw_src _ A n c 0 xs w1 (by omega) hs1).mono ?_
  rintro e w2 ⟨v2, rfl, ⟨p, hp, hpl, ho2⟩, hs2, hg2⟩
  have hB2 : Below w.heap.size w w2 := hb1.grown hg2 z1 (fun g h => by simp at h; omega)
  have z2 := hg2.size
  obtain ⟨A2, c2, rfl⟩ := own_form ho2
  have hT := l14Text_any A2 p.length c2 p w2 hp (Rd.of_own ho2)
  have hTs : (strOfNums (p.map (97 + ·))).size ≤ 12 := by rw [strOfNums_size, List.length_map]; exact hpl
  obtain ⟨T, hTe⟩ : ∃ T, strOfNums (p.map (97 + ·)) = T := ⟨_, rfl⟩
  rw [hTe] at hT hTs
  have hT := hid hT
  clear hTe ho2 hp hg2
  go_wp2_with fail
  refine hT.out.mono ?_
  rintro e w3 ⟨rfl, hb3⟩
  have hB3 : Below w.heap.size w w3 := bchain hB2 hb3
  have hs3 := hs2.below hb3 (by omega)
  have z3 := hb3.size
  clear hs2 hT
  go_wp2_with fail
  refine (one_src _ A n c _ xs 3 w3 (by omega) (by omega) hs3).mono ?_
  rintro e w4 ⟨⟨b, rfl⟩, hs4, hg4⟩
  have hB4 : Below w.heap.size w w4 := hB3.grown hg4 (by omega) (fun g h => by simp at h; omega)
  have z4 := hg4.size
  clear hs3 hg4
  cases b
  · go_wp2
    go_ret
    exact ⟨⟨T, by omega, rfl⟩, hB4⟩
  · go_wp2_with fail
    refine (l01Spoil_src _ A n c _ xs T w4 (by omega) (by omega) hs4).mono ?_
    rintro e w5 ⟨⟨S, hS, rfl⟩, hs5, hg5⟩
    have hB5 : Below w.heap.size w w5 := hB4.grown hg5 (by omega) (fun g h => by simp at h; omega)
    go_wp2
    go_ret
    exact ⟨⟨S, hS, rfl⟩, hB5⟩
end Go.Proofs.Ytopakpgmmfkcnaa
