/- Several texts in one: T, Tc. -/
import Derived.Test.YtgphkfnobmponaaGreatG02
import Derived.Test.YtgphkfnobmponaaGreatProg
import Derived.Test.YtgphkfnobmponaaGreatG01
import Derived.Deep.QuietTactic
import Derived.BigQuiet
import Derived.IntWalk
/- Contracts of the functions that check siteswaps. -/
namespace Go.Proofs.YtgphkfnobmponaaGreat
open Go.RowKit
set_option linter.unusedVariables false

theorem all_step {p : List Int} {i : Nat} {x : Int} {R : Bool} (f : Int → Bool) (h : (p.drop i).all f = R) (hd : p.drop i = x :: p.drop (i + 1)) (hx : f x = true) : (p.drop (i + 1)).all f = R := by
  rw [hd] at h; simpa [hx] using h
theorem all_stop {p : List Int} {i : Nat} {x : Int} {R : Bool} (f : Int → Bool) (h : (p.drop i).all f = R) (hd : p.drop i = x :: p.drop (i + 1)) (hx : f x = false) : R = false := by
  rw [hd] at h; simpa [hx] using h.symm
theorem areThrows_any (A : Option Addr) (n c : Nat) (p : List Int) (w : World) (hn : n ≤ 1099511627776) (hr : Rd w w.heap.size 1 A n (ints p)) :
    Calls Tryz.prog 70 #[.slice A n c] w fun e w' => e = .returned (.bool (thOk p)) ∧ w = w' := by
  have hlen := hr.len
  obtain ⟨R, hR⟩ : ∃ R, (p.drop 0).all (betweenB · 0 15) = R := ⟨_, rfl⟩
  have hR := hid hR
  have hth : Hid (thOk p = (R && betweenB (n : Int) 1 12)) := by show _ = _; rw [← hR.out, thOk, hlen]; simp
  go_enter Tryz.func70, Tryz.ntmps70
  go_wp2
  go_loop [7] (fun i => ∃ k : Nat, k ≤ n ∧ i = .int .i64 k ∧ Hid ((p.drop k).all (betweenB · 0 15) = R)) (fun i => n - (intOf i).toNat)
  case atStart => exact ⟨0, Nat.zero_le _, rfl, hR⟩
  case round =>
    obtain ⟨k, hk, rfl, he⟩ := hrel
    by_cases hlt : k < n
    · obtain ⟨b, off, x, rfl, hb, hx, hd, hc⟩ := hr.at_ hlt
      by_cases hx2 : betweenB x 0 15 = true
      · have HZ := hid (all_step _ he.out hd hx2)
        clear he hR hth hx hd hb hr hlen
        go_wp2_with (go_at_call 55; refine (between_any _ _ _ _).mono ?_; rintro e w' ⟨rfl, rfl⟩)
        go_round
        case rel => exact ⟨k + 1, by omega, by go_num, HZ⟩
        case measure => simp [intOf]; omega
      · have hx2 : betweenB x 0 15 = false := by simpa using hx2
        have hF := all_stop _ he.out hd hx2
        have HZ : Hid (thOk p = false) := by show _ = _; rw [hth.out, hF]; rfl
        clear he hR hth hx hd hb hr hlen hF
        go_wp2_with (go_at_call 55; refine (between_any _ _ _ _).mono ?_; rintro e w' ⟨rfl, rfl⟩)
        go_ret
        exact ⟨ret_bool HZ.out.symm, rfl⟩
    · have : k = n := by omega
      subst this
      have HZ : Hid (thOk p = betweenB (k : Int) 1 12) := by
        show _ = _
        have := he.out
        rw [List.drop_eq_nil_of_le (by omega)] at this
        rw [hth.out, ← this]; rfl
      clear he hR hth hr hlen
      go_wp2_with (go_at_call 55; refine (between_any _ _ _ _).mono ?_; rintro e w' ⟨rfl, rfl⟩)
      go_ret
      exact ⟨ret_bool HZ.out.symm, rfl⟩
theorem l02List_any (A : Option Addr) (n c : Nat) (p : List Int) (w : World) (hn : n ≤ 1099511627776) (hr : Rd w w.heap.size 1 A n (ints p)) :
    Calls Tryz.prog 73 #[.slice A n c] w fun e w' => e = .returned (.bool (thOk p)) ∧ w = w' := by
  have hlen := hr.len
  obtain ⟨R, hR⟩ : ∃ R, (p.drop 0).all (betweenB · 0 15) = R := ⟨_, rfl⟩
  have hR := hid hR
  have hth : Hid (thOk p = (R && betweenB (n : Int) 1 12)) := by show _ = _; rw [← hR.out, thOk, hlen]; simp
  go_enter Tryz.func73, Tryz.ntmps73
  go_wp2
  go_loop [3] (fun i => ∃ k : Nat, k ≤ n ∧ i = .int .i64 k ∧ Hid ((p.drop k).all (betweenB · 0 15) = R)) (fun i => n - (intOf i).toNat)
  case atStart => exact ⟨0, Nat.zero_le _, rfl, hR⟩
  case round =>
    obtain ⟨k, hk, rfl, he⟩ := hrel
    by_cases hlt : k < n
    · obtain ⟨b, off, x, rfl, hb, hx, hd, hc⟩ := hr.at_ hlt
      by_cases hx2 : betweenB x 0 15 = true
      · have HZ := hid (all_step _ he.out hd hx2)
        clear he hR hth hx hd hb hr hlen
        go_wp2_with (go_at_call 54; refine (l00In_any _ _ _ _).mono ?_; rintro e w' ⟨rfl, rfl⟩)
        go_round
        case rel => exact ⟨k + 1, by omega, by go_num, HZ⟩
        case measure => simp [intOf]; omega
      · have hx2 : betweenB x 0 15 = false := by simpa using hx2
        have hF := all_stop _ he.out hd hx2
        have HZ : Hid (thOk p = false) := by show _ = _; rw [hth.out, hF]; rfl
        clear he hR hth hx hd hb hr hlen hF
        go_wp2_with (go_at_call 54; refine (l00In_any _ _ _ _).mono ?_; rintro e w' ⟨rfl, rfl⟩)
        go_ret
        exact ⟨ret_bool HZ.out.symm, rfl⟩
    · have : k = n := by omega
      subst this
      have HZ : Hid (thOk p = betweenB (k : Int) 1 12) := by
        show _ = _
        have := he.out
        rw [List.drop_eq_nil_of_le (by omega)] at this
        rw [hth.out, ← this]; rfl
      clear he hR hth hr hlen
      go_wp2_with (go_at_call 54; refine (l00In_any _ _ _ _).mono ?_; rintro e w' ⟨rfl, rfl⟩)
      go_ret
      exact ⟨ret_bool HZ.out.symm, rfl⟩
theorem period_any (A : Option Addr) (n c : Nat) (w : World) (hn : n ≤ 1099511627776) :
    Calls Tryz.prog 109 #[.slice A n c] w fun e w' => e = .returned (.int .i64 (n : Int)) ∧ w = w' := by
  go_enter Tryz.func109, Tryz.ntmps109
  go_wp2
  go_ret
  exact ⟨rfl, rfl⟩
theorem lndF_step {n i : Int} {t : Int} {ts : List Int} : lndF n i (t :: ts) = (i + t) % n :: lndF n (i + 1) ts := rfl
theorem landings_any (A : Option Addr) (n c : Nat) (p : List Int) (w : World) (hp : thOk p = true) (hr : Rd w w.heap.size 1 A n (ints p)) :
    Calls Tryz.prog 71 #[.slice A n c] w fun e w' => ∃ v, e = .returned v ∧ w'.ownsRow w.heap.size 2 1 v n (ints (lnd p)) ∧ Below w.heap.size w w' := by
  have hlen := hr.len
  obtain ⟨q1, q2, q3⟩ := thOk_iff hp
  have hst : Hid (([] : List Int) ++ lndF n 0 (p.drop 0) = lnd p) := by show _ = _; rw [lnd, hlen]; simp
  have hll := lnd_len p
  go_enter Tryz.func71, Tryz.ntmps71
  go_wp2
  go_loopw [3, 9] (fun v i wr => ∃ (k : Nat) (out : List Int), k ≤ n ∧ i = .int .i64 k ∧ out.length = k ∧ Hid (out ++ lndF n k (p.drop k) = lnd p) ∧ wr.ownsRow w.heap.size 2 1 v out.length (ints out) ∧ Below w.heap.size w wr) (fun _ i _ => n - (intOf i).toNat)
  case atStart => exact ⟨0, [], Nat.zero_le _, rfl, rfl, hst, World.ownsRow_lit _ _ 0 (Nat.le_refl _) (by simp [maxLen]) rfl, (by repeat' (first | exact Below.refl _ _ | (with_reducible first | assumption | exact Nat.le_refl _ | refine Below.alloc ?_ ?_ _ | refine Below.setCell ?_ ?_ _ | refine Below.drew ?_ | refine below_drewN ?_ _) | refine Below.trans ?_ (Below.mono (by assumption) ?_) | exact Below.size (by assumption) | omega | go_size | (simp at *; omega)))⟩
  case round =>
    obtain ⟨k, out, hk, rfl, hok, he, ho, hb0⟩ := hrel
    have hB := hb0.size
    by_cases hlt : k < n
    · obtain ⟨b, off, x, rfl, hb, hx, hd, hc⟩ := (hr.below hb0 (Nat.le_refl _)).at_ hlt
      obtain ⟨x0, x1⟩ := q1 x (List.mem_of_getElem? hx)
      have HZ : Hid ((out ++ [((k : Int) + x) % (n : Int)]) ++ lndF n ((k + 1 : Nat) : Int) (p.drop (k + 1)) = lnd p) := by
        show _ = _
        rw [← he.out, hd, lndF_step]; simp
      have hn0 : 1 ≤ (n : Int) := by omega
      clear he hst hx hd hb hr q1
      go_wp2_with (first | (go_at_call 109; refine (period_any _ _ _ _ (by omega)).mono ?_; rintro e w' ⟨rfl, rfl⟩) | (at_builtin; refine push_int ho (((k : Int) + x) % (n : Int)) _ Tryz.underlying24 inf_int rfl rfl _ _ rfl rfl rfl (by omega) (by omega) ?_; intro v1 w1 ho1 hb1 hg1))
      go_roundw
      case rel => exact ⟨k + 1, out ++ [((k : Int) + x) % (n : Int)], by omega, by go_num, by simp [hok], HZ, ho1, (by repeat' (first | exact Below.refl _ _ | (with_reducible first | assumption | exact Nat.le_refl _ | refine Below.alloc ?_ ?_ _ | refine Below.setCell ?_ ?_ _ | refine Below.drew ?_ | refine below_drewN ?_ _) | refine Below.trans ?_ (Below.mono (by assumption) ?_) | exact Below.size (by assumption) | omega | go_size | (simp at *; omega)))⟩
      case measure => simp [intOf]; omega
    · have : k = n := by omega
      subst this
      have := he.out
      rw [List.drop_eq_nil_of_le (by omega)] at this
      simp only [lndF, List.append_nil] at this
      subst this
      go_wp2
      go_ret
      rw [hok] at ho
      exact ⟨_, rfl, ho, hb0⟩
theorem CollisionOf_any (A : Option Addr) (n c : Nat) (p : List Int) (w : World) (hn : n ≤ 1099511627776) (hr : Rd w w.heap.size 1 A n (ints p)) :
    Calls Tryz.prog 40 #[.slice A n c] w fun e w' => e = .returned (.tuple #[.int .i64 (rCollisionOf p).1, .int .i64 (rCollisionOf p).2.1, .int .i64 (rCollisionOf p).2.2]) ∧ Below w.heap.size w w' := by
  have hlen := hr.len
  by_cases k : thOk p = true
  · have hat := areThrows_any A n c p w hn hr
    rw [k] at hat
    have hat := hid hat
    go_enter Tryz.func40, Tryz.ntmps40
    go_wp2_with (first | (go_at_call 70; refine (hat.out).mono ?_; rintro e w' ⟨rfl, rfl⟩) | (go_at_call 71; refine (landings_any _ _ _ _ _ k hr).mono ?_; rintro e w1 ⟨v1, rfl, ho1, hb1⟩; obtain ⟨A1, c1, rfl⟩ := own_form ho1))
    have hst : Hid (col2 (Ld p) (n - 0) 0 = colP p) := by show _ = _; rw [colP, hlen]; rfl
    have hlen' := hid hlen
    have hrc : Hid (rCollisionOf p = colR (colP p)) := by show _ = _; simp [rCollisionOf, k]
    clear hr hlen
    go_loopw [15] (fun i wr => ∃ k : Nat, k ≤ n ∧ i = .int .i64 k ∧ Hid (col2 (Ld p) (n - k) k = colP p) ∧ Below w.heap.size w wr ∧ wr.ownsRow w.heap.size 2 1 (.slice A1 n c1) n (ints (lnd p))) (fun i _ => n - (intOf i).toNat)
    case atStart => exact ⟨0, Nat.zero_le _, rfl, hst, hb1, ho1⟩
    case round =>
    obtain ⟨k, hk, rfl, he, hb0, ho⟩ := hrel
    clear hst hb1 ho1
    by_cases hlt : k < n
    · obtain ⟨b, off, y, rfl, _, hy, _, hcy⟩ := (Rd.of_own ho).at_ hlt
      have hy2 : y = Ld p k := by have := lnd_at p k (by rw [hlen'.out]; exact hlt); rw [this] at hy; exact (Option.some.inj hy).symm
      have HY := hid hy2
      clear hy hcy hy2
      go_wp2
      go_loopw [19] (fun i w2 => ∃ j : Nat, j ≤ k ∧ i = .int .i64 j ∧ Hid (col1 (Ld p) k (k - j) j = col1 (Ld p) k k 0) ∧ Below w.heap.size w w2 ∧ w2.ownsRow w.heap.size 2 1 (.slice (some ⟨b, off, none⟩) n c1) n (ints (lnd p))) (fun i _ => k - (intOf i).toNat)
      case atStart => exact ⟨0, Nat.zero_le _, rfl, rfl, hb0, ho⟩
      case round =>
        obtain ⟨j, hj, rfl, he2, hb2, ho2⟩ := hrel
        clear hb0 ho
        by_cases hlj : j < k
        · obtain ⟨b', off', x, hA', _, hx, _, hcx⟩ := (Rd.of_own ho2).at_ (show j < n by omega)
          obtain ⟨b'', off'', y', hA'', _, hyy, _, hcy⟩ := (Rd.of_own ho2).at_ hlt
          injection hA' with hA'
          injection hA' with e1 e2
          subst e1 e2
          injection hA'' with hA''
          injection hA'' with e1 e2
          subst e1 e2
          have hx2 : x = Ld p j := by have := lnd_at p j (by rw [hlen'.out]; omega); rw [this] at hx; exact (Option.some.inj hx).symm
          have hy2 : y' = Ld p k := by have := lnd_at p k (by rw [hlen'.out]; exact hlt); rw [this] at hyy; exact (Option.some.inj hyy).symm
          have hkj : k - j = (k - (j + 1)) + 1 := by omega
          by_cases hxy : x = y'
          · have hq : (x == y') = true := by simp [hxy]
            have HZ : Hid (rCollisionOf p = ((j : Int), (k : Int), 9)) := by
              show _ = _
              have h3 := he2.out
              rw [hkj] at h3
              have h4 : col1 (Ld p) k (k - (j + 1) + 1) j = some j := by rw [col1, if_pos (by rw [← hx2, ← hy2]; exact hxy)]
              rw [h4] at h3
              have h5 := he.out
              have hkk : n - k = (n - (k + 1)) + 1 := by omega
              rw [hkk, col2_some1 h3.symm] at h5
              rw [hrc.out, ← h5]; rfl
            clear hx hyy hx2 hy2 hxy he he2 hkj hrc
            go_wp2
            go_quiet (fail)
            go_wp2
            go_ret3
            exact ⟨by rw [HZ.out]; rfl, (by repeat' (first | exact Below.refl _ _ | (with_reducible first | assumption | exact Nat.le_refl _ | refine Below.alloc ?_ ?_ _ | refine Below.setCell ?_ ?_ _ | refine Below.drew ?_ | refine below_drewN ?_ _) | refine Below.trans ?_ (Below.mono (by assumption) ?_) | exact Below.size (by assumption) | omega | go_size | (simp at *; omega)))⟩
          · have hq : (x == y') = false := by simpa using hxy
            have HZ : Hid (col1 (Ld p) k (k - (j + 1)) (j + 1) = col1 (Ld p) k k 0) := by
              show _ = _
              have h3 := he2.out
              rw [hkj] at h3
              rw [← h3, col1, if_neg (by rw [← hx2, ← hy2]; exact hxy)]
            clear hx hyy hx2 hy2 hxy he2 hkj
            go_wp2
            go_quiet (fail)
            go_wp2
            go_roundw
            case rel => exact ⟨j + 1, by omega, by go_num, HZ, (by repeat' (first | exact Below.refl _ _ | (with_reducible first | assumption | exact Nat.le_refl _ | refine Below.alloc ?_ ?_ _ | refine Below.setCell ?_ ?_ _ | refine Below.drew ?_ | refine below_drewN ?_ _) | refine Below.trans ?_ (Below.mono (by assumption) ?_) | exact Below.size (by assumption) | omega | go_size | (simp at *; omega))), ho2⟩
            case measure => simp [intOf]; omega
        · have HZ : Hid (col2 (Ld p) (n - (k + 1)) (k + 1) = colP p) := by
            show _ = _
            have hjk : j = k := by omega
            have h3 := he2.out
            rw [hjk, Nat.sub_self] at h3
            have hkk : n - k = (n - (k + 1)) + 1 := by omega
            rw [← he.out, hkk, col2_none1 h3.symm]
          clear he he2
          go_wp2
          go_roundw
          case rel => exact ⟨k + 1, by omega, by go_num, HZ, hb2, ho2⟩
          case measure => simp [intOf]; omega
    · have HZ : Hid (rCollisionOf p = (-1, -1, 0)) := by
        show _ = _
        have h5 := he.out
        have hkn : n - k = 0 := by omega
        rw [hkn] at h5
        rw [hrc.out, ← h5]; rfl
      clear he hrc
      go_wp2
      go_ret3
      exact ⟨by rw [HZ.out]; rfl, hb0⟩
  · have k : thOk p = false := by simpa using k
    have hat := areThrows_any A n c p w hn hr
    rw [k] at hat
    have hat := hid hat
    have hs : rCollisionOf p = (0, 0, 1) := by simp [rCollisionOf, k]
    rw [hs]
    go_enter Tryz.func40, Tryz.ntmps40
    go_wp2_with (first | (go_at_call 70; refine (hat.out).mono ?_; rintro e w' ⟨rfl, rfl⟩))
    go_ret3
    exact ⟨rfl, (by repeat' (first | exact Below.refl _ _ | (with_reducible first | assumption | exact Nat.le_refl _ | refine Below.alloc ?_ ?_ _ | refine Below.setCell ?_ ?_ _ | refine Below.drew ?_ | refine below_drewN ?_ _) | refine Below.trans ?_ (Below.mono (by assumption) ?_) | exact Below.size (by assumption) | omega | go_size | (simp at *; omega)))⟩
theorem ValidPattern_any (A : Option Addr) (n c : Nat) (p : List Int) (w : World) (hn : n ≤ 1099511627776) (hr : Rd w w.heap.size 1 A n (ints p)) :
    Calls Tryz.prog 58 #[.slice A n c] w fun e w' => e = .returned (.bool (okP p)) ∧ Below w.heap.size w w' := by
  have h1 := hid (CollisionOf_any A n c p w hn hr)
  rw [okP_code]
  clear hr
  generalize rCollisionOf p = r at *
  obtain ⟨a, b, d⟩ := r
  go_enter Tryz.func58, Tryz.ntmps58
  go_wp2_with (go_at_call 40; refine (h1.out).mono ?_; rintro e w1 ⟨rfl, hb1⟩; first | (have hk1 := bchain (by assumption) hb1; obtain ⟨hc1, hf1, hz1, hl1⟩ := bcell hk1) | (obtain ⟨hc1, hf1, hz1, hl1⟩ := bcell hb1))
  go_ret
  exact ⟨rfl, (by repeat' (first | exact Below.refl _ _ | (with_reducible first | assumption | exact Nat.le_refl _ | refine Below.alloc ?_ ?_ _ | refine Below.setCell ?_ ?_ _ | refine Below.drew ?_ | refine below_drewN ?_ _) | refine Below.trans ?_ (Below.mono (by assumption) ?_) | exact Below.size (by assumption) | omega | go_size | (simp at *; omega)))⟩
/-- What l02Clash gives. -/
def clashR : Option (Nat × Nat) → Int × Int
  | some (i, k) => ((i : Int), (k : Int))
  | none => (-1, -1)
theorem l02Clash_any (A : Option Addr) (n c : Nat) (p : List Int) (w : World) (hp : thOk p = true) (hr : Rd w w.heap.size 1 A n (ints p)) :
    Calls Tryz.prog 44 #[.slice A n c] w fun e w' => e = .returned (.tuple #[.int .i64 (clashR (colP p)).1, .int .i64 (clashR (colP p)).2]) ∧ Below w.heap.size w w' := by
  have hlen := hr.len
  obtain ⟨q1, q2, q3⟩ := thOk_iff hp
  have hst : Hid (col2 (Ld p) (n - 1) 1 = colP p) := by show _ = _; rw [colP_one, hlen]
  obtain ⟨R, hR⟩ : ∃ R, R = colP p := ⟨_, rfl⟩
  rw [← hR] at hst ⊢
  clear hR
  have Q1 := hid q1
  have hlen' := hid hlen
  have hn1 : 1 ≤ n := by omega
  have hn2 : n ≤ 12 := by omega
  clear q1 hlen q2 q3
  go_enter Tryz.func44, Tryz.ntmps44
  go_wp2
  go_loopw [5] (fun i wr => ∃ k : Nat, 1 ≤ k ∧ k ≤ n ∧ i = .int .i64 k ∧ Hid (col2 (Ld p) (n - k) k = R) ∧ Below w.heap.size w wr) (fun i _ => n - (intOf i).toNat)
  case atStart => exact ⟨1, by omega, by omega, rfl, hst, (by repeat' (first | exact Below.refl _ _ | (with_reducible first | assumption | exact Nat.le_refl _ | refine Below.alloc ?_ ?_ _ | refine Below.setCell ?_ ?_ _ | refine Below.drew ?_ | refine below_drewN ?_ _) | refine Below.trans ?_ (Below.mono (by assumption) ?_) | exact Below.size (by assumption) | omega | go_size | (simp at *; omega)))⟩
  case round =>
    obtain ⟨k, hk1, hk, rfl, he, hb0⟩ := hrel
    clear hst
    by_cases hlt : k < n
    · go_wp2
      go_loopw [6] (fun i w2 => ∃ j : Nat, j ≤ k ∧ i = .int .i64 j ∧ Hid (col1 (Ld p) k (k - j) j = col1 (Ld p) k k 0) ∧ Below w.heap.size w w2) (fun i _ => k - (intOf i).toNat)
      case atStart => exact ⟨0, by omega, rfl, rfl, hb0⟩
      case round =>
        obtain ⟨j, hj, rfl, he2, hb2⟩ := hrel
        clear hb0
        by_cases hlj : j < k
        · obtain ⟨b, off, x, hA', _, hx, _, hcx⟩ := (hr.below hb2 (Nat.le_refl _)).at_ (show j < n by omega)
          obtain ⟨b'', off'', y, hA'', _, hy, _, hcy⟩ := (hr.below hb2 (Nat.le_refl _)).at_ hlt
          subst hA'
          injection hA'' with hA''
          injection hA'' with e1 e2
          subst e1 e2
          obtain ⟨x0, x1⟩ := Q1.out x (List.mem_of_getElem? hx)
          obtain ⟨y0, y1⟩ := Q1.out y (List.mem_of_getElem? hy)
          have hx2 : ((j : Int) + x) % (n : Int) = Ld p j := by rw [Ld, hlen'.out, List.getD_eq_getElem?_getD, hx]; rfl
          have hy2 : ((k : Int) + y) % (n : Int) = Ld p k := by rw [Ld, hlen'.out, List.getD_eq_getElem?_getD, hy]; rfl
          have hkj : k - j = (k - (j + 1)) + 1 := by omega
          by_cases hxy : ((j : Int) + x) % (n : Int) = ((k : Int) + y) % (n : Int)
          · have hq : (((j : Int) + x) % (n : Int) == ((k : Int) + y) % (n : Int)) = true := by simp [hxy]
            have HZ : Hid (clashR R = ((j : Int), (k : Int))) := by
              show _ = _
              have h3 := he2.out
              rw [hkj] at h3
              have h4 : col1 (Ld p) k (k - (j + 1) + 1) j = some j := by rw [col1, if_pos (by rw [← hx2, ← hy2]; exact hxy)]
              rw [h4] at h3
              have h5 := he.out
              have hkk : n - k = (n - (k + 1)) + 1 := by omega
              rw [hkk, col2_some1 h3.symm] at h5
              rw [← h5]; rfl
            clear hx hy hx2 hy2 hxy he he2 hkj hr
            go_wp2
            go_quiet (fail)
            go_wp2
            go_ret2
            exact ⟨by rw [HZ.out]; rfl, (by repeat' (first | exact Below.refl _ _ | (with_reducible first | assumption | exact Nat.le_refl _ | refine Below.alloc ?_ ?_ _ | refine Below.setCell ?_ ?_ _ | refine Below.drew ?_ | refine below_drewN ?_ _) | refine Below.trans ?_ (Below.mono (by assumption) ?_) | exact Below.size (by assumption) | omega | go_size | (simp at *; omega)))⟩
          · have hq : (((j : Int) + x) % (n : Int) == ((k : Int) + y) % (n : Int)) = false := by simpa using hxy
            have HZ : Hid (col1 (Ld p) k (k - (j + 1)) (j + 1) = col1 (Ld p) k k 0) := by
              show _ = _
              have h3 := he2.out
              rw [hkj] at h3
              rw [← h3, col1, if_neg (by rw [← hx2, ← hy2]; exact hxy)]
            clear hx hy hx2 hy2 hxy he2 hkj hr
            go_wp2
            go_quiet (fail)
            go_wp2
            go_roundw
            case rel => exact ⟨j + 1, by omega, by go_num, HZ, (by repeat' (first | exact Below.refl _ _ | (with_reducible first | assumption | exact Nat.le_refl _ | refine Below.alloc ?_ ?_ _ | refine Below.setCell ?_ ?_ _ | refine Below.drew ?_ | refine below_drewN ?_ _) | refine Below.trans ?_ (Below.mono (by assumption) ?_) | exact Below.size (by assumption) | omega | go_size | (simp at *; omega)))⟩
            case measure => simp [intOf]; omega
        · have HZ : Hid (col2 (Ld p) (n - (k + 1)) (k + 1) = R) := by
            show _ = _
            have hjk : j = k := by omega
            have h3 := he2.out
            rw [hjk, Nat.sub_self] at h3
            have hkk : n - k = (n - (k + 1)) + 1 := by omega
            rw [← he.out, hkk, col2_none1 h3.symm]
          clear he he2
          go_wp2
          go_roundw
          case rel => exact ⟨k + 1, by omega, by omega, by go_num, HZ, hb2⟩
          case measure => simp [intOf]; omega
    · have HZ : Hid (clashR R = (-1, -1)) := by
        show _ = _
        have h5 := he.out
        have hkn : n - k = 0 := by omega
        rw [hkn] at h5
        rw [← h5]; rfl
      clear he
      go_wp2
      go_ret2
      exact ⟨by rw [HZ.out]; rfl, hb0⟩
theorem l02Ok_any (A : Option Addr) (n c : Nat) (p : List Int) (w : World) (hn : n ≤ 1099511627776) (hr : Rd w w.heap.size 1 A n (ints p)) :
    Calls Tryz.prog 84 #[.slice A n c] w fun e w' => e = .returned (.bool (okP p)) ∧ Below w.heap.size w w' := by
  have hat := l02List_any A n c p w hn hr
  by_cases k : thOk p = true
  · rw [k] at hat
    have hat := hid hat
    have hcl := l02Clash_any A n c p w k hr
    have hs : Hid (okP p = decide ((clashR (colP p)).1 < 0)) := by
      show _ = _
      rw [okP, k]
      cases hc : colP p with
      | none => rfl
      | some x => obtain ⟨a, b⟩ := x; show false = decide ((a : Int) < 0); exact (decide_eq_false (by omega)).symm
    generalize clashR (colP p) = r at *
    obtain ⟨a, b⟩ := r
    have hcl := hid hcl
    clear hr k
    go_enter Tryz.func84, Tryz.ntmps84
    go_wp2_with (first | (go_at_call 73; refine (hat.out).mono ?_; rintro e w' ⟨rfl, rfl⟩) | (go_at_call 44; refine (hcl.out).mono ?_; rintro e w1 ⟨rfl, hb1⟩; first | (have hk1 := bchain (by assumption) hb1; obtain ⟨hc1, hf1, hz1, hl1⟩ := bcell hk1) | (obtain ⟨hc1, hf1, hz1, hl1⟩ := bcell hb1)))
    go_ret
    exact ⟨ret_bool hs.out.symm, (by repeat' (first | exact Below.refl _ _ | (with_reducible first | assumption | exact Nat.le_refl _ | refine Below.alloc ?_ ?_ _ | refine Below.setCell ?_ ?_ _ | refine Below.drew ?_ | refine below_drewN ?_ _) | refine Below.trans ?_ (Below.mono (by assumption) ?_) | exact Below.size (by assumption) | omega | go_size | (simp at *; omega)))⟩
  · have k : thOk p = false := by simpa using k
    rw [k] at hat
    have hat := hid hat
    have hs : Hid (okP p = false) := by show _ = _; simp [okP, k]
    clear hr k
    go_enter Tryz.func84, Tryz.ntmps84
    go_wp2_with (first | (go_at_call 73; refine (hat.out).mono ?_; rintro e w' ⟨rfl, rfl⟩))
    go_ret
    exact ⟨ret_bool hs.out.symm, (by repeat' (first | exact Below.refl _ _ | (with_reducible first | assumption | exact Nat.le_refl _ | refine Below.alloc ?_ ?_ _ | refine Below.setCell ?_ ?_ _ | refine Below.drew ?_ | refine below_drewN ?_ _) | refine Below.trans ?_ (Below.mono (by assumption) ?_) | exact Below.size (by assumption) | omega | go_size | (simp at *; omega)))⟩
end Go.Proofs.YtgphkfnobmponaaGreat

/- Contracts of the functions that cut texts: cut, l01Split. -/
namespace Go.Proofs.YtgphkfnobmponaaGreat
open Go.RowKit
set_option linter.unusedVariables false

/-- What a cut gives. -/
def CutRes (r : List UInt8 × List UInt8 × Bool) (e : Ending) : Prop := ∃ a b : ByteArray, e = .returned (.tuple #[.string a, .string b, .bool r.2.2]) ∧ tl a = r.1 ∧ tl b = r.2.1
theorem take_not {l : List UInt8} {k : Nat} {x c : UInt8} (hx : l[k]? = some x) (h : c ∉ l.take k) (hne : x ≠ c) : c ∉ l.take (k + 1) := by
  rw [List.take_add_one, hx, List.mem_append, not_or]
  exact ⟨h, by simp; exact fun e => hne e.symm⟩
theorem cutL_here {l : List UInt8} {k : Nat} {c : UInt8} (hx : l[k]? = some c) (h : c ∉ l.take k) : cutL c l = (l.take k, l.drop (k + 1), true) := by
  have hk := (List.getElem?_eq_some_iff.1 hx).1
  have e : l = l.take k ++ c :: l.drop (k + 1) := by
    conv => lhs; rw [← List.take_append_drop k l]
    rw [List.drop_eq_getElem_cons hk, (List.getElem?_eq_some_iff.1 hx).2]
  conv => lhs; rw [e]
  exact cutL_yes _ h
theorem one_at (s : ByteArray) (k : Nat) (h : k < s.size) : s.extract k (k + 1) = st [s[k]] := by
  refine tl_inj ?_
  rw [tl_extract, tl_st, List.drop_take]
  rw [tl_drop s k h, show k + 1 - k = 1 by omega]; rfl
theorem str_eq (a b : ByteArray) : (a.toList == b.toList) = decide (tl a = tl b) := by
  rw [ByteArray.toList_eq, ByteArray.toList_eq, Bool.eq_iff_iff]; simp [tl]
theorem cut_any (s : ByteArray) (c : UInt8) (w : World) (hs : s.size ≤ 1099511627776) :
    Calls Tryz.prog 104 #[.string s, .string ⟨#[c]⟩] w fun e w' => CutRes (cutL c (tl s)) e ∧ Below w.heap.size w w' := by
  obtain ⟨sep, hsep⟩ : ∃ sep : ByteArray, sep = ⟨#[c]⟩ := ⟨_, rfl⟩
  have hz : sep.size = 1 := by rw [hsep]; rfl
  rw [← hsep]
  have HS := hid hsep
  clear hsep
  go_enter Tryz.func104, Tryz.ntmps104
  go_wp2
  go_loopw [7] (fun i wr => Hid (∃ k : Nat, k ≤ s.size ∧ i = .int .i64 k ∧ Hid (c ∉ (tl s).take k) ∧ Below w.heap.size w wr)) (fun i _ => s.size - (intOf i).toNat)
  case atStart => exact hid ⟨0, Nat.zero_le _, rfl, hid (p := c ∉ (tl s).take 0) (by simp), (by repeat' (first | exact Below.refl _ _ | (with_reducible first | assumption | exact Nat.le_refl _ | refine Below.alloc ?_ ?_ _ | refine Below.setCell ?_ ?_ _ | refine Below.drew ?_ | refine below_drewN ?_ _) | refine Below.trans ?_ (Below.mono (by assumption) ?_) | exact Below.size (by assumption) | omega | go_size | (simp at *; omega)))⟩
  case round =>
    obtain ⟨k, hk, rfl, hn, hb0⟩ := hrel.out
    clear hrel
    by_cases hlt : k < s.size
    · have hx := tl_at s k hlt
      have hone := one_at s k hlt
      have hle : (k : Int) + 1 ≤ (s.size : Int) := by omega
      have hke : (k : Int) ≤ (k : Int) + 1 := by omega
      obtain ⟨sub, hsub⟩ : ∃ sub, s.extract k (k + 1) = sub := ⟨_, rfl⟩
      rw [hsub] at hone
      by_cases hc : s[k] = c
      · have hq : (sub.toList == sep.toList) = true := by
          rw [str_eq, hone, tl_st, HS.out, hc]; exact decide_eq_true rfl
        have HC : Hid (cutL c (tl s) = ((tl s).take k, (tl s).drop (k + 1), true)) := by
          show _ = _
          rw [hc] at hx
          exact cutL_here hx hn.out
        have hw : IntKind.i64.wrap ((k : Int) + 1) = (k : Int) + 1 := IntWalk.i64_in _ (by omega)
        have hp0 : (0 : Int) ≤ (k : Int) + 1 := by omega
        have hki : (k : Int) ≤ (s.size : Int) := by omega
        have ht : ((k : Int) + 1).toNat = k + 1 := by omega
        clear hx hone hc hn
        go_wp2
        clear hsub
        go_quiet (fail)
        clear hw ht
        go_wp2
        go_ret3
        refine ⟨?_, (by repeat' (first | exact Below.refl _ _ | (with_reducible first | assumption | exact Nat.le_refl _ | refine Below.alloc ?_ ?_ _ | refine Below.setCell ?_ ?_ _ | refine Below.drew ?_ | refine below_drewN ?_ _) | refine Below.trans ?_ (Below.mono (by assumption) ?_) | exact Below.size (by assumption) | omega | go_size | (simp at *; omega)))⟩
        rw [HC.out]
        exact ⟨_, _, rfl, by rw [tl_extract]; simp, by rw [tl_extract, List.take_of_length_le (by rw [tl_len]; exact Nat.le_refl _)]⟩
      · have hq : (sub.toList == sep.toList) = false := by
          rw [str_eq, hone, tl_st, HS.out]; exact decide_eq_false (fun e => hc (by injection e))
        have HN := hid (take_not hx hn.out hc)
        clear hx hone hc hn
        go_wp2
        go_roundw
        case rel => exact hid ⟨k + 1, by omega, by go_num, HN, (by repeat' (first | exact Below.refl _ _ | (with_reducible first | assumption | exact Nat.le_refl _ | refine Below.alloc ?_ ?_ _ | refine Below.setCell ?_ ?_ _ | refine Below.drew ?_ | refine below_drewN ?_ _) | refine Below.trans ?_ (Below.mono (by assumption) ?_) | exact Below.size (by assumption) | omega | go_size | (simp at *; omega)))⟩
        case measure => simp [intOf]; omega
    · have hkk : k = s.size := by omega
      have HC : Hid (cutL c (tl s) = (tl s, [], false)) := by
        show _ = _
        have h := hn.out
        rw [List.take_of_length_le (by rw [tl_len]; omega)] at h
        exact cutL_not h
      have hnl : ¬ (k : Int) + 1 ≤ (s.size : Int) := by omega
      clear hn hkk
      go_wp2
      go_ret3
      refine ⟨?_, hb0⟩
      rw [HC.out]
      exact ⟨_, _, rfl, rfl, rfl⟩
/-- Texts as cells. -/
def strs (L : List ByteArray) : List Value := L.map Value.string
theorem strs_snoc (L : List ByteArray) (x : ByteArray) : strs L ++ [Value.string x] = strs (L ++ [x]) := by simp [strs]
theorem inf_str : (Tryz.prog.info? 9).map (fun i => (i.zero, i.size, i.bytes)) = some (some (.string ⟨#[]⟩), 1, 16) := by kernel_rfl
/-- 'append(out, s)', s a text. -/
theorem push_str {w : World} {ops : Array Oper} {rest : List Oper} {o : Oper} {a : Act} {Q : Exit → Act → World → Prop}
    {base : Nat} {v : Value} {L : List ByteArray} (hown : w.ownsRow base 9 1 v L.length (strs L)) (x : ByteArray) (e2 : TypeId)
    (hgd : o.guard = none) (s z : Operand) (ho : o.op = .call { callee := .builtin .append, args := #[s, z], argTypes := #[79, 79] }) (hs : a.eval s = v) (hx : a.eval z = .slice (some ⟨w.heap.size, 0, none⟩) 1 1)
    (hn : L.length ≤ 1099511627776) (hbase : base ≤ w.heap.size)
    (h : ∀ v' w', w'.ownsRow base 9 1 v' (L ++ [x]).length (strs (L ++ [x])) → Below base w w' → w.grownBy w' v.ownBlock → wpList Tryz.prog ops Q rest (a.put o.dst v') w') :
    wpList Tryz.prog ops Q (o :: rest) a (w.alloc (.cells #[.string x] e2)) := by
  refine push_own hown #[.string x] e2 Tryz.underlying79 inf_str rfl (by omega) hgd s z ho hs hx rfl (fun u hu => by simp at hu; subst hu; rfl) hn (by omega) hbase fun v' w' h1 h2 h3 => h v' w' ?_ h2 h3
  rw [← strs_snoc, List.length_append]; exact h1
theorem splitL_here {c : UInt8} {l : List UInt8} {f k : Nat} (hf : f ≤ k) (hx : l[k]? = some c) (h : c ∉ (l.drop f).take (k - f)) : splitL c (l.drop f) = (l.drop f).take (k - f) :: splitL c (l.drop (k + 1)) := by
  have hk := (List.getElem?_eq_some_iff.1 hx).1
  have hx2 : (l.drop f)[k - f]? = some c := by rw [List.getElem?_drop, show f + (k - f) = k by omega]; exact hx
  have hk2 := (List.getElem?_eq_some_iff.1 hx2).1
  have e : l.drop f = (l.drop f).take (k - f) ++ c :: l.drop (k + 1) := by
    conv => lhs; rw [← List.take_append_drop (k - f) (l.drop f)]
    rw [List.drop_eq_getElem_cons hk2, (List.getElem?_eq_some_iff.1 hx2).2, List.drop_drop, show f + (k - f + 1) = k + 1 by omega]
  conv => lhs; rw [e]
  exact splitL_yes _ h
/-- The parts of a text, of the call's own. -/
def SplRes (B : Nat) (P : List (List UInt8)) (e : Ending) (w : World) : Prop := ∃ v, ∃ L : List ByteArray, e = .returned v ∧ w.ownsRow B 9 1 v L.length (strs L) ∧ L.map tl = P
theorem l01Split_any (s : ByteArray) (c : UInt8) (w : World) (hs : s.size ≤ 1099511627775) :
    Calls Tryz.prog 111 #[.string s, .int .u8 (c.toNat : Int)] w fun e w' => SplRes w.heap.size (splitL c (tl s)) e w' ∧ Below w.heap.size w w' := by
  have hst : Hid (([] : List ByteArray).map tl ++ splitL c ((tl s).drop 0) = splitL c (tl s)) := rfl
  obtain ⟨R, hR⟩ : ∃ R, splitL c (tl s) = R := ⟨_, rfl⟩
  rw [hR] at hst ⊢
  have HR := hid hR
  clear hR
  go_enter Tryz.func111, Tryz.ntmps111
  go_wp2
  go_loopw [5, 6, 7] (fun v u i wr => Hid (∃ (f k : Nat) (L : List ByteArray), k ≤ s.size ∧ f ≤ k ∧ i = .int .i64 k ∧ u = .int .i64 f ∧ L.length ≤ f ∧ Hid (L.map tl ++ splitL c ((tl s).drop f) = R) ∧ Hid (c ∉ ((tl s).drop f).take (k - f)) ∧ wr.ownsRow w.heap.size 9 1 v L.length (strs L) ∧ Below w.heap.size w wr)) (fun _ _ i _ => s.size - (intOf i).toNat)
  case atStart => exact hid ⟨0, 0, [], Nat.zero_le _, Nat.zero_le _, rfl, rfl, by simp, hst, hid (p := c ∉ ((tl s).drop 0).take (0 - 0)) (by simp), World.ownsRow_lit _ _ 0 (Nat.le_refl _) (by simp [maxLen]) rfl, (by repeat' (first | exact Below.refl _ _ | (with_reducible first | assumption | exact Nat.le_refl _ | refine Below.alloc ?_ ?_ _ | refine Below.setCell ?_ ?_ _ | refine Below.drew ?_ | refine below_drewN ?_ _) | refine Below.trans ?_ (Below.mono (by assumption) ?_) | exact Below.size (by assumption) | omega | go_size | (simp at *; omega)))⟩
  case round =>
    obtain ⟨f, k, L, hk, hf, rfl, rfl, hL, he, hn, ho, hb0⟩ := hrel.out
    clear hrel
    have hz := hb0.size
    by_cases hlt : k < s.size
    · have hx := tl_at s k hlt
      by_cases hc : s[k] = c
      · have hq : (((s[k]'hlt).toNat : Int) == (c.toNat : Int)) = true := by rw [hc]; simp
        have HE : Hid ((L ++ [s.extract f k]).map tl ++ splitL c ((tl s).drop (k + 1)) = R) := by
          show _ = _
          rw [hc] at hx
          rw [← he.out, splitL_here hf hx hn.out, List.map_append, List.append_assoc, List.map_cons, List.map_nil, tl_extract, List.drop_take]; rfl
        have hfk : (f : Int) ≤ (k : Int) := by omega
        have hki : (k : Int) ≤ (s.size : Int) := by omega
        clear hx hc he hn
        go_wp2_with (at_builtin; refine push_str ho (s.extract f k) _ rfl _ _ rfl rfl rfl (by omega) hz ?_; intro v1 w1 ho1 hb1 hg1)
        go_roundw
        case rel => exact hid ⟨k + 1, k + 1, L ++ [s.extract f k], by omega, Nat.le_refl _, by go_num, by go_num, by rw [List.length_append, List.length_singleton]; omega, HE, hid (p := c ∉ ((tl s).drop (k + 1)).take (k + 1 - (k + 1))) (by simp), ho1, (by repeat' (first | exact Below.refl _ _ | (with_reducible first | assumption | exact Nat.le_refl _ | refine Below.alloc ?_ ?_ _ | refine Below.setCell ?_ ?_ _ | refine Below.drew ?_ | refine below_drewN ?_ _) | refine Below.trans ?_ (Below.mono (by assumption) ?_) | exact Below.size (by assumption) | omega | go_size | (simp at *; omega)))⟩
        case measure => simp [intOf]; omega
      · have hq : (((s[k]'hlt).toNat : Int) == (c.toNat : Int)) = false := by
          simp only [beq_eq_false_iff_ne, ne_eq, Int.natCast_inj]
          exact fun e => hc (UInt8.toNat_inj.1 e)
        have HN : Hid (c ∉ ((tl s).drop f).take (k + 1 - f)) := by
          have hx2 : ((tl s).drop f)[k - f]? = some s[k] := by rw [List.getElem?_drop, show f + (k - f) = k by omega]; exact hx
          have := take_not hx2 hn.out hc
          rw [show k - f + 1 = k + 1 - f by omega] at this
          exact this
        clear hx hc hn
        go_wp2
        go_roundw
        case rel => exact hid ⟨f, k + 1, L, by omega, by omega, by go_num, rfl, hL, he, HN, ho, hb0⟩
        case measure => simp [intOf]; omega
    · have hkk : k = s.size := by omega
      have HE : Hid ((L ++ [s.extract f s.size]).map tl = R) := by
        show _ = _
        have h := hn.out
        rw [hkk, List.take_of_length_le (by rw [List.length_drop, tl_len]; omega)] at h
        rw [← he.out, splitL_not h, List.map_append, List.map_cons, List.map_nil, tl_extract, List.take_of_length_le (by rw [tl_len]; exact Nat.le_refl _)]
      have hfk : (f : Int) ≤ (s.size : Int) := by omega
      clear he hn hkk
      go_wp2_with (at_builtin; refine push_str ho (s.extract f s.size) _ rfl _ _ rfl rfl rfl (by omega) hz ?_; intro v1 w1 ho1 hb1 hg1)
      go_ret
      exact ⟨⟨_, _, rfl, ho1, HE.out⟩, (by repeat' (first | exact Below.refl _ _ | (with_reducible first | assumption | exact Nat.le_refl _ | refine Below.alloc ?_ ?_ _ | refine Below.setCell ?_ ?_ _ | refine Below.drew ?_ | refine below_drewN ?_ _) | refine Below.trans ?_ (Below.mono (by assumption) ?_) | exact Below.size (by assumption) | omega | go_size | (simp at *; omega)))⟩
end Go.Proofs.YtgphkfnobmponaaGreat
