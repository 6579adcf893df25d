/- Contracts of the comparisons of lists, and of the lists of throws that are drawn. -/
import Derived.Test.YtnngkaocblkgkaaT
import Derived.Test.YtnngkaocblkgkaaR
namespace Go.Proofs.Ytnngkaocblkgkaa
open Go.RowKit
set_option linter.unusedVariables false

theorem a2Same_any (A A' : Option Addr) (n n' c c' : Nat) (xs ys : List Int) (w : World) (hn : n ≤ 1099511627776) (hn' : n' ≤ 1099511627776) (h : Rd w w.heap.size 1 A n (ints xs)) (h' : Rd w w.heap.size 1 A' n' (ints ys)) :
    Calls Try.prog 44 #[.slice A n c, .slice A' n' c'] w fun e w' => e = .returned (.bool (decide (xs = ys))) ∧ Below w.heap.size w w' := by
  have hl := h.len
  have hl' := h'.len
  by_cases hnn : n = n'
  · subst hnn
    have hst : Hid (decide (xs.drop 0 = ys.drop 0) = decide (xs = ys)) := rfl
    go_enter Try.func44, Try.ntmps44
    go_wp2
    go_loopw [5] (fun i wr => ∃ k : Nat, k ≤ n ∧ i = .int .i64 k ∧ Hid (decide (xs.drop k = ys.drop k) = decide (xs = ys)) ∧ Below w.heap.size w wr) (fun i _ => n - (intOf i).toNat)
    case atStart => exact ⟨0, Nat.zero_le _, rfl, hst, Below.refl _ _⟩
    case round =>
    obtain ⟨k, hk, rfl, he, hb0⟩ := hrel
    by_cases hlt : k < n
    · obtain ⟨b, off, x, rfl, hb, hx, hd, hc⟩ := (h.below hb0 (Nat.le_refl _)).at_ hlt
      obtain ⟨b', off', x', rfl, hb', hx', hd', hc'⟩ := (h'.below hb0 (Nat.le_refl _)).at_ hlt
      by_cases hxx : x = x'
      · have hq : (x != x') = false := by simp [hxx]
        have HZ : Hid (decide (xs.drop (k + 1) = ys.drop (k + 1)) = decide (xs = ys)) := by
          show _ = _
          rw [← he.out, hd, hd', hxx]; simp
        clear hx hx' hd hd' he hst h h' hb hb' hl hl' hxx
        go_wp2
        go_quiet (fail)
        go_wp2
        go_roundw
        case rel => exact ⟨k + 1, by omega, by go_num, HZ, (by repeat' (first | exact Below.refl _ _ | (with_reducible assumption) | (with_reducible refine Below.alloc ?_ ?_ _) | (with_reducible refine Below.setCell ?_ ?_ _) | (with_reducible refine Below.drew ?_) | (with_reducible refine below_drewN ?_ _) | (refine Below.trans ?_ (Below.mono (by assumption) ?_)) | (with_reducible exact Nat.le_refl _) | (with_reducible assumption) | (exact Below.size (by assumption)) | omega | go_size | (simp at *; omega)))⟩
        case measure => simp [intOf]; omega
      · have hq : (x != x') = true := by simpa using hxx
        have HZ : Hid (decide (xs = ys) = false) := by
          show _ = _
          rw [← he.out, hd, hd']; simp [hxx]
        clear hx hx' hd hd' he hst h h' hb hb' hl hl' hxx
        go_wp2
        go_quiet (fail)
        go_wp2
        go_ret
        exact ⟨ret_bool HZ.out.symm, (by repeat' (first | exact Below.refl _ _ | (with_reducible assumption) | (with_reducible refine Below.alloc ?_ ?_ _) | (with_reducible refine Below.setCell ?_ ?_ _) | (with_reducible refine Below.drew ?_) | (with_reducible refine below_drewN ?_ _) | (refine Below.trans ?_ (Below.mono (by assumption) ?_)) | (with_reducible exact Nat.le_refl _) | (with_reducible assumption) | (exact Below.size (by assumption)) | omega | go_size | (simp at *; omega)))⟩
    · have HZ : Hid (decide (xs = ys) = true) := by
        show _ = _
        rw [← he.out, List.drop_eq_nil_of_le (by omega), List.drop_eq_nil_of_le (by omega)]; rfl
      clear he hst hl hl' h h'
      go_wp2
      go_ret
      exact ⟨ret_bool HZ.out.symm, (by repeat' (first | exact Below.refl _ _ | (with_reducible assumption) | (with_reducible refine Below.alloc ?_ ?_ _) | (with_reducible refine Below.setCell ?_ ?_ _) | (with_reducible refine Below.drew ?_) | (with_reducible refine below_drewN ?_ _) | (refine Below.trans ?_ (Below.mono (by assumption) ?_)) | (with_reducible exact Nat.le_refl _) | (with_reducible assumption) | (exact Below.size (by assumption)) | omega | go_size | (simp at *; omega)))⟩
  · have HZ : Hid (decide (xs = ys) = false) := by
      show _ = _
      refine decide_eq_false fun e => hnn ?_
      rw [← hl, ← hl', e]
    clear hl hl' h h'
    go_enter Try.func44, Try.ntmps44
    go_wp2
    go_ret
    exact ⟨ret_bool HZ.out.symm, (by repeat' (first | exact Below.refl _ _ | (with_reducible assumption) | (with_reducible refine Below.alloc ?_ ?_ _) | (with_reducible refine Below.setCell ?_ ?_ _) | (with_reducible refine Below.drew ?_) | (with_reducible refine below_drewN ?_ _) | (refine Below.trans ?_ (Below.mono (by assumption) ?_)) | (with_reducible exact Nat.le_refl _) | (with_reducible assumption) | (exact Below.size (by assumption)) | omega | go_size | (simp at *; omega)))⟩

theorem a2Long_any (A A' : Option Addr) (n c n' c' : Nat) (w : World) (hn : n ≤ 9223372036854775807) (hn' : n' ≤ 9223372036854775807) :
    Calls Try.prog 40 #[.slice A n c, .slice A' n' c'] w fun e w' => e = .returned (.bool (decide (3000 < n) || decide (3000 < n'))) ∧ w = w' := by
  by_cases h : 3000 < n
  · go_enter Try.func40, Try.ntmps40
    go_wp2
    go_ret
    exact ⟨ret_bool (by first | (simp; done) | (rw [Bool.eq_iff_iff]; simp; omega)), rfl⟩
  · go_enter Try.func40, Try.ntmps40
    go_wp2
    go_ret
    exact ⟨ret_bool (by first | (simp; done) | (rw [Bool.eq_iff_iff]; simp; omega)), rfl⟩
def cmpL : List Int → List Int → Int
  | x :: xs, y :: ys => if x < y then -1 else if y < x then 1 else cmpL xs ys
  | _, _ => 0
/-- How two lists compare. -/
def rCmp (a b : List Int) : Int := if a.length < b.length then -1 else if b.length < a.length then 1 else cmpL a b
theorem cmpL_bd : ∀ a b, -1 ≤ cmpL a b ∧ cmpL a b ≤ 1 := by
  intro a
  induction a with
  | nil => intro b; simp [cmpL]
  | cons x xs ih =>
    intro b
    cases b with
    | nil => simp [cmpL]
    | cons y ys =>
      simp only [cmpL]
      split
      · omega
      · split
        · omega
        · exact ih ys
theorem cmpL_neg : ∀ a b, cmpL b a = - cmpL a b := by
  intro a
  induction a with
  | nil => intro b; cases b <;> simp [cmpL]
  | cons x xs ih =>
    intro b
    cases b with
    | nil => simp [cmpL]
    | cons y ys =>
      simp only [cmpL]
      by_cases h1 : x < y
      · have h2 : ¬ y < x := by omega
        simp [h1, h2]
      · by_cases h2 : y < x
        · simp [h1, h2]
        · simp only [h1, h2, if_false]; exact ih ys
theorem cmpL_zero : ∀ a b, a.length = b.length → (cmpL a b = 0 ↔ a = b) := by
  intro a
  induction a with
  | nil => intro b h; have : b = [] := List.eq_nil_of_length_eq_zero (by simpa using h.symm); subst this; simp [cmpL]
  | cons x xs ih =>
    intro b h
    cases b with
    | nil => simp at h
    | cons y ys =>
      simp only [List.length_cons] at h
      simp only [cmpL]
      by_cases h1 : x < y
      · rw [if_pos h1]; simp; omega
      · by_cases h2 : y < x
        · rw [if_neg h1, if_pos h2]; simp; omega
        · rw [if_neg h1, if_neg h2, ih ys (by omega)]
          have : x = y := by omega
          simp [this]
theorem rCmp_bd (a b : List Int) : -1 ≤ rCmp a b ∧ rCmp a b ≤ 1 := by
  unfold rCmp
  split
  · omega
  · split
    · omega
    · exact cmpL_bd a b
theorem rCmp_neg (a b : List Int) : rCmp b a = - rCmp a b := by
  unfold rCmp
  by_cases h1 : a.length < b.length
  · have h2 : ¬ b.length < a.length := by omega
    simp [h1, h2]
  · by_cases h2 : b.length < a.length
    · simp [h1, h2]
    · simp only [h1, h2, if_false]; exact cmpL_neg a b
theorem rCmp_zero (a b : List Int) : rCmp a b = 0 ↔ a = b := by
  unfold rCmp
  by_cases h1 : a.length < b.length
  · rw [if_pos h1]
    constructor
    · intro h; omega
    · intro h; subst h; omega
  · by_cases h2 : b.length < a.length
    · rw [if_neg h1, if_pos h2]
      constructor
      · intro h; omega
      · intro h; subst h; omega
    · rw [if_neg h1, if_neg h2]; exact cmpL_zero a b (by omega)
theorem rCmp_self (a : List Int) : rCmp a a = 0 := (rCmp_zero a a).2 rfl
theorem ComparePatterns_any (A A' : Option Addr) (n n' c c' : Nat) (xs ys : List Int) (w : World) (hn : n ≤ 1099511627776) (hn' : n' ≤ 1099511627776) (h : Rd w w.heap.size 1 A n (ints xs)) (h' : Rd w w.heap.size 1 A' n' (ints ys)) :
    Calls Try.prog 43 #[.slice A n c, .slice A' n' c'] w fun e w' => e = .returned (.int .i64 (rCmp xs ys)) ∧ Below w.heap.size w w' := by
  have hl := h.len
  have hl' := h'.len
  rcases Nat.lt_trichotomy n n' with hnn | rfl | hnn
  · have HZ : Hid (rCmp xs ys = -1) := by show _ = _; rw [rCmp, if_pos (by omega)]
    clear hl hl' h h'
    go_enter Try.func43, Try.ntmps43
    go_wp2
    go_ret
    exact ⟨ret_int HZ.out.symm, (by repeat' (first | exact Below.refl _ _ | (with_reducible assumption) | (with_reducible refine Below.alloc ?_ ?_ _) | (with_reducible refine Below.setCell ?_ ?_ _) | (with_reducible refine Below.drew ?_) | (with_reducible refine below_drewN ?_ _) | (refine Below.trans ?_ (Below.mono (by assumption) ?_)) | (with_reducible exact Nat.le_refl _) | (with_reducible assumption) | (exact Below.size (by assumption)) | omega | go_size | (simp at *; omega)))⟩
  · have hst : Hid (cmpL (xs.drop 0) (ys.drop 0) = rCmp xs ys) := by show _ = _; rw [rCmp, if_neg (by omega), if_neg (by omega)]; rfl
    generalize rCmp xs ys = R at *
    go_enter Try.func43, Try.ntmps43
    go_wp2
    go_loopw [20] (fun i wr => ∃ k : Nat, k ≤ n ∧ i = .int .i64 k ∧ Hid (cmpL (xs.drop k) (ys.drop k) = R) ∧ Below w.heap.size w wr) (fun i _ => n - (intOf i).toNat)
    case atStart => exact ⟨0, Nat.zero_le _, rfl, hst, Below.refl _ _⟩
    case round =>
    obtain ⟨k, hk, rfl, he, hb0⟩ := hrel
    by_cases hlt : k < n
    · obtain ⟨b, off, x, rfl, hb, hx, hd, hc⟩ := (h.below hb0 (Nat.le_refl _)).at_ hlt
      obtain ⟨b', off', x', rfl, hb', hx', hd', hc'⟩ := (h'.below hb0 (Nat.le_refl _)).at_ hlt
      have he := he.out
      rw [hd, hd', cmpL] at he
      by_cases h1 : x < x'
      · rw [if_pos h1] at he
        have HZ := hid he
        clear hx hx' hd hd' he hst h h' hb hb' hl hl'
        go_wp2
        go_quiet (fail)
        go_wp2
        go_ret
        exact ⟨ret_int HZ.out, (by repeat' (first | exact Below.refl _ _ | (with_reducible assumption) | (with_reducible refine Below.alloc ?_ ?_ _) | (with_reducible refine Below.setCell ?_ ?_ _) | (with_reducible refine Below.drew ?_) | (with_reducible refine below_drewN ?_ _) | (refine Below.trans ?_ (Below.mono (by assumption) ?_)) | (with_reducible exact Nat.le_refl _) | (with_reducible assumption) | (exact Below.size (by assumption)) | omega | go_size | (simp at *; omega)))⟩
      · rw [if_neg h1] at he
        by_cases h2 : x' < x
        · rw [if_pos h2] at he
          have HZ := hid he
          clear hx hx' hd hd' he hst h h' hb hb' hl hl'
          go_wp2
          go_quiet (fail)
          go_wp2
          go_quiet (fail)
          go_wp2
          go_ret
          exact ⟨ret_int HZ.out, (by repeat' (first | exact Below.refl _ _ | (with_reducible assumption) | (with_reducible refine Below.alloc ?_ ?_ _) | (with_reducible refine Below.setCell ?_ ?_ _) | (with_reducible refine Below.drew ?_) | (with_reducible refine below_drewN ?_ _) | (refine Below.trans ?_ (Below.mono (by assumption) ?_)) | (with_reducible exact Nat.le_refl _) | (with_reducible assumption) | (exact Below.size (by assumption)) | omega | go_size | (simp at *; omega)))⟩
        · rw [if_neg h2] at he
          have HZ := hid he
          clear hx hx' hd hd' he hst h h' hb hb' hl hl'
          go_wp2
          go_quiet (fail)
          go_wp2
          go_quiet (fail)
          go_wp2
          go_roundw
          case rel => exact ⟨k + 1, by omega, by go_num, HZ, (by repeat' (first | exact Below.refl _ _ | (with_reducible assumption) | (with_reducible refine Below.alloc ?_ ?_ _) | (with_reducible refine Below.setCell ?_ ?_ _) | (with_reducible refine Below.drew ?_) | (with_reducible refine below_drewN ?_ _) | (refine Below.trans ?_ (Below.mono (by assumption) ?_)) | (with_reducible exact Nat.le_refl _) | (with_reducible assumption) | (exact Below.size (by assumption)) | omega | go_size | (simp at *; omega)))⟩
          case measure => simp [intOf]; omega
    · have HZ : Hid (R = 0) := by
        show _ = _
        rw [← he.out, List.drop_eq_nil_of_le (by omega)]; simp [cmpL]
      clear he hst hl hl' h h'
      go_wp2
      go_ret
      exact ⟨ret_int HZ.out.symm, (by repeat' (first | exact Below.refl _ _ | (with_reducible assumption) | (with_reducible refine Below.alloc ?_ ?_ _) | (with_reducible refine Below.setCell ?_ ?_ _) | (with_reducible refine Below.drew ?_) | (with_reducible refine below_drewN ?_ _) | (refine Below.trans ?_ (Below.mono (by assumption) ?_)) | (with_reducible exact Nat.le_refl _) | (with_reducible assumption) | (exact Below.size (by assumption)) | omega | go_size | (simp at *; omega)))⟩
  · have HZ : Hid (rCmp xs ys = 1) := by show _ = _; rw [rCmp, if_neg (by omega), if_pos (by omega)]
    clear hl hl' h h'
    go_enter Try.func43, Try.ntmps43
    go_wp2
    go_ret
    exact ⟨ret_int HZ.out.symm, (by repeat' (first | exact Below.refl _ _ | (with_reducible assumption) | (with_reducible refine Below.alloc ?_ ?_ _) | (with_reducible refine Below.setCell ?_ ?_ _) | (with_reducible refine Below.drew ?_) | (with_reducible refine below_drewN ?_ _) | (refine Below.trans ?_ (Below.mono (by assumption) ?_)) | (with_reducible exact Nat.le_refl _) | (with_reducible assumption) | (exact Below.size (by assumption)) | omega | go_size | (simp at *; omega)))⟩
theorem own_box_ne {w : World} {b e s n g : Nat} {t : TypeId} {cs : Array Value} {v : Value} {xs : List Value} (h : w.ownsRow b e s v n xs) (hg : Bx w g t cs) (hne : e ≠ t) : v.ownBlock ≠ some g := by
  rcases h.2 with ⟨rfl, _⟩ | ⟨g', cap, cur, rfl, _, hh, _⟩
  · simp [Value.ownBlock]
  · intro he
    have : g' = g := by simpa [Value.ownBlock] using he
    subst this
    unfold Bx at hg
    rw [hh] at hg
    injection hg with hg
    injection hg with _ ht
    exact hne ht
/-- A list of numbers of the call's own stays while a source is asked. -/
theorem own_src {w w' : World} {b n g m c K : Nat} {A : Option Addr} {zs : List Int} {v : Value} {xs : List Value} (h : w.ownsRow b 2 1 v n xs) (hs : Src w g A m c zs K) (hg : w.grownBy w' (some g)) : w'.ownsRow b 2 1 v n xs := by
  obtain ⟨_, _, hb, _⟩ := hs
  exact h.kept hg (.inr (own_box_ne h hb (by decide)))
/-- v is a list of throws of the call's own. -/
def ThRow (B : Nat) (w : World) (v : Value) : Prop := ∃ p, thOk p = true ∧ w.ownsRow B 2 1 v p.length (ints p)
/-- A list of throws that is drawn is one. -/
theorem A2Throws_any (A : Option Addr) (n c : Nat) (xs : List Int) (w : World) (hn : n ≤ 1099511627776) (hx : ∀ x ∈ xs, 0 ≤ x ∧ x ≤ 255) (hr : Rd w w.heap.size 1 A n (xs.map (Value.int .u8))) :
    Calls Try.prog 41 #[.slice A n c] w fun e w' => ∃ v, e = .returned v ∧ ThRow w.heap.size w' v ∧ Below w.heap.size w w' := by
  have h0 := hid (l00From_any A n c xs w hn hx hr)
  clear hx hr
  go_enter Try.func41, Try.ntmps41
  go_wp2_with fail
  refine h0.out.mono ?_
  rintro e w1 ⟨rfl, hs1, hb1⟩
  have z1 := hb1.size
  have l1 := hs1.lt
  go_wp2_with fail
  have hs1' := hs1.below (w' := w1.alloc (Obj.cells #[] 2)) (B := w1.heap.size) ((Below.refl _ _).alloc (Nat.le_refl _) _) l1
  refine (pick_src _ A n c 0 xs _ _ (by omega) (by omega) hs1').mono ?_
  rintro e w2 ⟨⟨k, k0, k1, rfl⟩, hs2, hg2⟩
  have ho2 := own_src (World.ownsRow_lit (base := w.heap.size + 1) w1 #[] (e := 2) (size := 1) 0 (by omega) (by simp [maxLen]) rfl) hs1' hg2
  have z2 := hg2.size
  have hB2 : Below w.heap.size w w2 := (hb1.alloc z1 _).grown hg2 (by simp; omega) (fun g h => by simp at h; omega)
  have k5 : k ≤ 5 := by omega
  clear hs1' hg2
  go_wp2
  go_loopw [4, 5] (fun v i wr => ∃ (kk : Int) (out : List Int) (K : Nat), i = .int .i64 kk ∧ 0 ≤ kk ∧ kk + (out.length : Int) = k + 1 ∧ (K : Int) + 2 * kk ≤ 20 ∧ (∀ x ∈ out, 0 ≤ x ∧ x ≤ 8) ∧ Src wr w.heap.size A n c xs K ∧ wr.ownsRow (w.heap.size + 1) 2 1 v out.length (ints out) ∧ Below w.heap.size w wr ∧ w.heap.size + 1 ≤ wr.heap.size) (fun _ i _ => (intOf i).toNat)
  case atStart => exact ⟨1 + k, [], 2, rfl, by omega, by simp; omega, by omega, by simp, hs2, ho2, hB2, by simp at z2; omega⟩
  case round =>
    obtain ⟨kk, out, K, rfl, hk0, hkl, hK, hall, hs, ho, hb0, hz⟩ := hrel
    have HA := hid hall
    clear hall
    by_cases hlt : 0 < kk
    · have hol : out.length ≤ 6 := by omega
      go_wp2_with (first
        | (go_at_call 75; refine (pick_src _ A n c K xs _ _ (by omega) (by omega) hs).mono ?_; rintro e w3 ⟨⟨x, x0, x1, rfl⟩, hs3, hg3⟩; have ho3 := own_src ho hs hg3; have z3 := hg3.size; have hB3 : Below w.heap.size w w3 := hb0.grown hg3 (by omega) (fun g h => by simp at h; omega))
        | (at_builtin; refine push_int ho3 x _ Try.underlying28 inf_int rfl rfl _ _ rfl rfl rfl (by omega) (by omega) ?_; intro v4 w4 ho4 hb4 hg4))
      go_roundw
      case rel =>
        refine ⟨kk - 1, out ++ [x], K + 2, rfl, by omega, by simp; omega, by omega, ?_, hs3.below hb4 (by omega), ho4, ?_, ?_⟩
        · intro y hy
          rcases List.mem_append.1 hy with hy | hy
          · exact HA.out y hy
          · simp at hy; subst hy; omega
        · exact hB3.trans (hb4.mono (by omega))
        · have := hb4.size; omega
      case measure => simp [intOf]; omega
    · go_wp2
      go_ret
      exact ⟨_, rfl, ⟨out, thOk_mk (fun x hx => by have := HA.out x hx; omega) (by omega) (by omega), own_more ho (by omega)⟩, hb0⟩
theorem fnCollisions_main (w : World) (A : Option Addr) (n c : Nat) (xs : List Int) (hK : Came .u8 w A n c xs) (A' : Option Addr) (n' c' : Nat) (xs' : List Int) (hK' : Came .u8 w A' n' c' xs') (hl : n ≤ 3000) (hl' : n' ≤ 3000) :
    Calls Try.prog 11 #[.slice A n c, .slice A' n' c'] w fun e w' => e = .returned (.bool true) ∧ Below w.heap.size w w' := by
  have hq : (decide (3000 < n) || decide (3000 < n')) = false := by simp; omega
  have hL := a2Long_any A A' n c n' c' w (by omega) (by omega)
  rw [hq] at hL
  have hL := hid hL
  have hr := hid (Rd.of_came hK)
  have hr' := hid (Rd.of_came hK')
  have hx := hid hK.bytes
  have hx' := hid hK'.bytes
  clear hK hK'
  go_enter Try.func11, Try.ntmps11
  go_wp2_with (go_at_call 40; refine (hL.out).mono ?_; rintro e w' ⟨rfl, rfl⟩)
  refine (A2Throws_any A n c xs w (by omega) hx.out hr.out).mono ?_
  rintro e w1 ⟨v1, rfl, ⟨p, hp, ho1⟩, hb1⟩
  obtain ⟨A1, c1, rfl⟩ := own_form ho1
  go_wp2_with fail
  refine (A2Throws_any A' n' c' xs' w1 (by omega) hx'.out ((hr'.out.below hb1 (Nat.le_refl _)).more hb1.size)).mono ?_
  rintro e w2 ⟨v2, rfl, ⟨q, hq, ho2⟩, hb2⟩
  obtain ⟨A2, c2, rfl⟩ := own_form ho2
  obtain ⟨hp1, hp2, hp3⟩ := thOk_iff hp
  obtain ⟨hq1, hq2, hq3⟩ := thOk_iff hq
  have ho1 := own_below ho1 hb2
  have hB := bchain hb1 hb2
  clear hb1 hb2 hr hr' hx hx' hL
  go_wp2_with fail
  have hC := CollisionOf_any A1 p.length c1 p w2 (by omega) (Rd.of_own ho1)
  obtain ⟨⟨ci, ck, cc⟩, hC0⟩ : ∃ r, r = rCollisionOf p := ⟨_, rfl⟩
  rw [← hC0] at hC
  have HC0 := hid hC0
  clear hC0
  refine hC.mono ?_
  clear hC
  rintro e w3 ⟨rfl, hb3⟩
  have ho1 := own_below ho1 hb3
  have ho2 := own_below ho2 hb3
  replace hB := bchain hB hb3
  go_wp2_with fail
  have hC := ComparePatterns_any A1 A2 p.length q.length c1 c2 p q w3 (by omega) (by omega) (Rd.of_own ho1) (Rd.of_own ho2)
  obtain ⟨r, hr0⟩ : ∃ r, r = rCmp p q := ⟨_, rfl⟩
  have hr1 := rCmp_bd p q
  have hr2 := rCmp_neg p q
  have hr3 := rCmp_zero p q
  rw [← hr0] at hC hr1 hr2 hr3
  obtain ⟨r1, r2⟩ := hr1
  have HR2 := hid hr2
  have HR3 := hid hr3
  clear hr0 hr2 hr3
  refine hC.mono ?_
  clear hC
  rintro e w4 ⟨rfl, hb4⟩
  have ho1 := own_below ho1 hb4
  have ho2 := own_below ho2 hb4
  replace hB := bchain hB hb4
  have hlt : (decide (r < -1) || decide (1 < r)) = false := by simp; omega
  go_wp2_with fail
  have hC := ComparePatterns_any A2 A1 q.length p.length c2 c1 q p w4 (by omega) (by omega) (Rd.of_own ho2) (Rd.of_own ho1)
  rw [HR2.out] at hC
  refine hC.mono ?_
  clear hC
  rintro e w5 ⟨rfl, hb5⟩
  have ho1 := own_below ho1 hb5
  have ho2 := own_below ho2 hb5
  replace hB := bchain hB hb5
  have hrr : (-r != -r) = false := by simp
  go_wp2_with fail
  have hC := a2Same_any A1 A2 p.length q.length c1 c2 p q w5 (by omega) (by omega) (Rd.of_own ho1) (Rd.of_own ho2)
  have hbe : decide (p = q) = (r == 0) := by
    rw [Bool.eq_iff_iff]
    simp only [decide_eq_true_eq, beq_iff_eq]
    exact HR3.out.symm
  rw [hbe] at hC
  clear hbe
  refine hC.mono ?_
  clear hC
  rintro e w6 ⟨rfl, hb6⟩
  have ho1 := own_below ho1 hb6
  have ho2 := own_below ho2 hb6
  replace hB := bchain hB hb6
  have hbb : ((r == 0) != (r == 0)) = false := by simp
  go_wp2_with fail
  have hC := ComparePatterns_any A1 A1 p.length p.length c1 c1 p p w6 (by omega) (by omega) (Rd.of_own ho1) (Rd.of_own ho1)
  rw [rCmp_self] at hC
  refine hC.mono ?_
  clear hC
  rintro e w7 ⟨rfl, hb7⟩
  have ho1 := own_below ho1 hb7
  replace hB := bchain hB hb7
  clear ho2 hb3 hb4 hb5 hb6 hb7
  cases hcp : colP p with
  | none =>
    have hv := specValidPattern_any A1 p.length c1 p w7 (by omega) (Rd.of_own ho1)
    have hok : okP p = true := by simp [okP, hp, hcp]
    rw [hok] at hv
    have hv := hid hv
    have h9 := HC0.out
    rw [rCollisionOf, if_pos hp, hcp, colR] at h9
    simp only [Prod.mk.injEq] at h9
    obtain ⟨rfl, rfl, rfl⟩ := h9
    clear HC0 ho1 hok hcp
    go_wp2_with (go_at_call 45; refine (hv.out).mono ?_; rintro e w1 ⟨rfl, hb1⟩; first | (have hk1 := bchain (by assumption) hb1; obtain ⟨hc1, hf1, hz1, hl1⟩ := bcell hk1) | (obtain ⟨hc1, hf1, hz1, hl1⟩ := bcell hb1))
    go_ret
    exact ⟨rfl, (by repeat' (first | exact Below.refl _ _ | (with_reducible assumption) | (with_reducible refine Below.alloc ?_ ?_ _) | (with_reducible refine Below.setCell ?_ ?_ _) | (with_reducible refine Below.drew ?_) | (with_reducible refine below_drewN ?_ _) | (refine Below.trans ?_ (Below.mono (by assumption) ?_)) | (with_reducible exact Nat.le_refl _) | (with_reducible assumption) | (exact Below.size (by assumption)) | omega | go_size | (simp at *; omega)))⟩
  | some x =>
    obtain ⟨a, b⟩ := x
    have h9 := HC0.out
    rw [rCollisionOf, if_pos hp, hcp, colR] at h9
    simp only [Prod.mk.injEq] at h9
    obtain ⟨rfl, rfl, rfl⟩ := h9
    obtain ⟨g1, g2, g3, g4⟩ := col2_some (show col2 (Ld p) p.length 0 = some (a, b) from hcp)
    have ha : a < p.length := by omega
    have hb : b < p.length := by omega
    obtain ⟨bk, off, x, rfl, _, hx, _, hcx⟩ := (Rd.of_own ho1).at_ ha
    obtain ⟨bk', off', y, hA', _, hy, _, hcy⟩ := (Rd.of_own ho1).at_ hb
    injection hA' with hA'
    injection hA' with e1 e2
    subst e1 e2
    obtain ⟨x0, x1⟩ := hp1 x (List.mem_of_getElem? hx)
    obtain ⟨y0, y1⟩ := hp1 y (List.mem_of_getElem? hy)
    have hL1 : ((a : Int) + x) % (p.length : Int) = Ld p a := by rw [Ld, List.getD_eq_getElem?_getD, hx]; rfl
    have hL2 : ((b : Int) + y) % (p.length : Int) = Ld p b := by rw [Ld, List.getD_eq_getElem?_getD, hy]; rfl
    have hq : (((a : Int) + x) % (p.length : Int) == ((b : Int) + y) % (p.length : Int)) = true := by rw [hL1, hL2, g4]; simp
    have hn1 : 1 ≤ (p.length : Int) := by omega
    have hai : (a : Int) < (b : Int) := by omega
    have hbi : (b : Int) < (p.length : Int) := by omega
    generalize p.length = N at *
    clear HC0 ho1 hcp hL1 hL2 hx hy g4 hp1 HR2 HR3
    go_wp2
    go_quiet (fail)
    go_wp2
    go_ret
    exact ⟨rfl, (by repeat' (first | exact Below.refl _ _ | (with_reducible assumption) | (with_reducible refine Below.alloc ?_ ?_ _) | (with_reducible refine Below.setCell ?_ ?_ _) | (with_reducible refine Below.drew ?_) | (with_reducible refine below_drewN ?_ _) | (refine Below.trans ?_ (Below.mono (by assumption) ?_)) | (with_reducible exact Nat.le_refl _) | (with_reducible assumption) | (exact Below.size (by assumption)) | omega | go_size | (simp at *; omega)))⟩
theorem fnCollisions_walk (w : World) (A : Option Addr) (n c : Nat) (xs : List Int) (hK : Came .u8 w A n c xs) (A' : Option Addr) (n' c' : Nat) (xs' : List Int) (hK' : Came .u8 w A' n' c' xs') :
    Calls Try.prog 11 #[.slice A n c, .slice A' n' c'] w fun e w' => e = .returned (.bool true) ∧ Below w.heap.size w w' := by
  by_cases h : n ≤ 3000 ∧ n' ≤ 3000
  · exact fnCollisions_main w A n c xs hK A' n' c' xs' hK' h.1 h.2
  · have hq : (decide (3000 < n) || decide (3000 < n')) = true := by simp; omega
    have h1 := hK.2.1; have h2 := hK.2.2.1; have h3 := hK'.2.1; have h4 := hK'.2.2.1
    unfold maxLen at h2 h4
    have hL := a2Long_any A A' n c n' c' w (by omega) (by omega)
    rw [hq] at hL
    have hL := hid hL
    clear hK hK' h hq
    go_enter Try.func11, Try.ntmps11
    go_wp2_with (go_at_call 40; refine (hL.out).mono ?_; rintro e w' ⟨rfl, rfl⟩)
    go_ret
    exact ⟨rfl, (by repeat' (first | exact Below.refl _ _ | (with_reducible assumption) | (with_reducible refine Below.alloc ?_ ?_ _) | (with_reducible refine Below.setCell ?_ ?_ _) | (with_reducible refine Below.drew ?_) | (with_reducible refine below_drewN ?_ _) | (refine Below.trans ?_ (Below.mono (by assumption) ?_)) | (with_reducible exact Nat.le_refl _) | (with_reducible assumption) | (exact Below.size (by assumption)) | omega | go_size | (simp at *; omega)))⟩
end Go.Proofs.Ytnngkaocblkgkaa
