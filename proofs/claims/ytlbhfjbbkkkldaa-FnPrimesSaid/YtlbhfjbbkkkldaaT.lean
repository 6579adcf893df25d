/- Contracts of the functions that check siteswaps. -/
import Derived.Test.YtlbhfjbbkkkldaaA
import Derived.Test.YtlbhfjbbkkkldaaC
import Derived.Test.YtlbhfjbbkkkldaaS
namespace Go.Proofs.Ytlbhfjbbkkkldaa
open Go.RowKit
set_option linter.unusedVariables false

theorem all_step {p : List Int} {i : Nat} {x : Int} {R : Bool} (f : Int → Bool) (h : (p.drop i).all f = R) (hd : p.drop i = x :: p.drop (i + 1)) (hx : f x = true) : (p.drop (i + 1)).all f = R := by
  rw [hd] at h; simpa [hx] using h
theorem all_stop {p : List Int} {i : Nat} {x : Int} {R : Bool} (f : Int → Bool) (h : (p.drop i).all f = R) (hd : p.drop i = x :: p.drop (i + 1)) (hx : f x = false) : R = false := by
  rw [hd] at h; simpa [hx] using h.symm
theorem areThrows_any (A : Option Addr) (n c : Nat) (p : List Int) (w : World) (hn : n ≤ 1099511627776) (hr : Rd w w.heap.size 1 A n (ints p)) :
    Calls Try.prog 167 #[.slice A n c] w fun e w' => e = .returned (.bool (thOk p)) ∧ w = w' := by
  have hlen := hr.len
  obtain ⟨R, hR⟩ : ∃ R, (p.drop 0).all (betweenB · 0 15) = R := ⟨_, rfl⟩
  have hR := hid hR
  have hth : Hid (thOk p = (R && betweenB (n : Int) 1 12)) := by show _ = _; rw [← hR.out, thOk, hlen]; simp
  go_enter Try.func167, Try.ntmps167
  go_wp2
  go_loop [7] (fun i => ∃ k : Nat, k ≤ n ∧ i = .int .i64 k ∧ Hid ((p.drop k).all (betweenB · 0 15) = R)) (fun i => n - (intOf i).toNat)
  case atStart => exact ⟨0, Nat.zero_le _, rfl, hR⟩
  case round =>
    obtain ⟨k, hk, rfl, he⟩ := hrel
    by_cases hlt : k < n
    · obtain ⟨b, off, x, rfl, hb, hx, hd, hc⟩ := hr.at_ hlt
      by_cases hx2 : betweenB x 0 15 = true
      · have HZ := hid (all_step _ he.out hd hx2)
        clear he hR hth hx hd hb hr hlen
        go_wp2_with (go_at_call 122; refine (between_any _ _ _ _).mono ?_; rintro e w' ⟨rfl, rfl⟩)
        go_round
        case rel => exact ⟨k + 1, by omega, by go_num, HZ⟩
        case measure => simp [intOf]; omega
      · have hx2 : betweenB x 0 15 = false := by simpa using hx2
        have hF := all_stop _ he.out hd hx2
        have HZ : Hid (thOk p = false) := by show _ = _; rw [hth.out, hF]; rfl
        clear he hR hth hx hd hb hr hlen hF
        go_wp2_with (go_at_call 122; refine (between_any _ _ _ _).mono ?_; rintro e w' ⟨rfl, rfl⟩)
        go_ret
        exact ⟨ret_bool HZ.out.symm, rfl⟩
    · have : k = n := by omega
      subst this
      have HZ : Hid (thOk p = betweenB (k : Int) 1 12) := by
        show _ = _
        have := he.out
        rw [List.drop_eq_nil_of_le (by omega)] at this
        rw [hth.out, ← this]; rfl
      clear he hR hth hr hlen
      go_wp2_with (go_at_call 122; refine (between_any _ _ _ _).mono ?_; rintro e w' ⟨rfl, rfl⟩)
      go_ret
      exact ⟨ret_bool HZ.out.symm, rfl⟩
theorem l02List_any (A : Option Addr) (n c : Nat) (p : List Int) (w : World) (hn : n ≤ 1099511627776) (hr : Rd w w.heap.size 1 A n (ints p)) :
    Calls Try.prog 150 #[.slice A n c] w fun e w' => e = .returned (.bool (thOk p)) ∧ w = w' := by
  have hlen := hr.len
  obtain ⟨R, hR⟩ : ∃ R, (p.drop 0).all (betweenB · 0 15) = R := ⟨_, rfl⟩
  have hR := hid hR
  have hth : Hid (thOk p = (R && betweenB (n : Int) 1 12)) := by show _ = _; rw [← hR.out, thOk, hlen]; simp
  go_enter Try.func150, Try.ntmps150
  go_wp2
  go_loop [3] (fun i => ∃ k : Nat, k ≤ n ∧ i = .int .i64 k ∧ Hid ((p.drop k).all (betweenB · 0 15) = R)) (fun i => n - (intOf i).toNat)
  case atStart => exact ⟨0, Nat.zero_le _, rfl, hR⟩
  case round =>
    obtain ⟨k, hk, rfl, he⟩ := hrel
    by_cases hlt : k < n
    · obtain ⟨b, off, x, rfl, hb, hx, hd, hc⟩ := hr.at_ hlt
      by_cases hx2 : betweenB x 0 15 = true
      · have HZ := hid (all_step _ he.out hd hx2)
        clear he hR hth hx hd hb hr hlen
        go_wp2_with (go_at_call 95; refine (l00In_any _ _ _ _).mono ?_; rintro e w' ⟨rfl, rfl⟩)
        go_round
        case rel => exact ⟨k + 1, by omega, by go_num, HZ⟩
        case measure => simp [intOf]; omega
      · have hx2 : betweenB x 0 15 = false := by simpa using hx2
        have hF := all_stop _ he.out hd hx2
        have HZ : Hid (thOk p = false) := by show _ = _; rw [hth.out, hF]; rfl
        clear he hR hth hx hd hb hr hlen hF
        go_wp2_with (go_at_call 95; refine (l00In_any _ _ _ _).mono ?_; rintro e w' ⟨rfl, rfl⟩)
        go_ret
        exact ⟨ret_bool HZ.out.symm, rfl⟩
    · have : k = n := by omega
      subst this
      have HZ : Hid (thOk p = betweenB (k : Int) 1 12) := by
        show _ = _
        have := he.out
        rw [List.drop_eq_nil_of_le (by omega)] at this
        rw [hth.out, ← this]; rfl
      clear he hR hth hr hlen
      go_wp2_with (go_at_call 95; refine (l00In_any _ _ _ _).mono ?_; rintro e w' ⟨rfl, rfl⟩)
      go_ret
      exact ⟨ret_bool HZ.out.symm, rfl⟩
theorem period_any (A : Option Addr) (n c : Nat) (w : World) (hn : n ≤ 1099511627776) :
    Calls Try.prog 152 #[.slice A n c] w fun e w' => e = .returned (.int .i64 (n : Int)) ∧ w = w' := by
  go_enter Try.func152, Try.ntmps152
  go_wp2
  go_ret
  exact ⟨rfl, rfl⟩
theorem lndF_step {n i : Int} {t : Int} {ts : List Int} : lndF n i (t :: ts) = (i + t) % n :: lndF n (i + 1) ts := rfl
theorem landings_any (A : Option Addr) (n c : Nat) (p : List Int) (w : World) (hp : thOk p = true) (hr : Rd w w.heap.size 1 A n (ints p)) :
    Calls Try.prog 168 #[.slice A n c] w fun e w' => ∃ v, e = .returned v ∧ w'.ownsRow w.heap.size 2 1 v n (ints (lnd p)) ∧ Below w.heap.size w w' := by
  have hlen := hr.len
  obtain ⟨q1, q2, q3⟩ := thOk_iff hp
  have hst : Hid (([] : List Int) ++ lndF n 0 (p.drop 0) = lnd p) := by show _ = _; rw [lnd, hlen]; simp
  have hll := lnd_len p
  go_enter Try.func168, Try.ntmps168
  go_wp2
  go_loopw [3, 9] (fun v i wr => ∃ (k : Nat) (out : List Int), k ≤ n ∧ i = .int .i64 k ∧ out.length = k ∧ Hid (out ++ lndF n k (p.drop k) = lnd p) ∧ wr.ownsRow w.heap.size 2 1 v out.length (ints out) ∧ Below w.heap.size w wr) (fun _ i _ => n - (intOf i).toNat)
  case atStart => exact ⟨0, [], Nat.zero_le _, rfl, rfl, hst, World.ownsRow_lit _ _ 0 (Nat.le_refl _) (by simp [maxLen]) rfl, (by repeat' (first | exact Below.refl _ _ | (with_reducible assumption) | (with_reducible refine Below.alloc ?_ ?_ _) | (with_reducible refine Below.setCell ?_ ?_ _) | (with_reducible refine Below.drew ?_) | (with_reducible refine below_drewN ?_ _) | (refine Below.trans ?_ (Below.mono (by assumption) ?_)) | (with_reducible exact Nat.le_refl _) | (with_reducible assumption) | (exact Below.size (by assumption)) | omega | go_size | (simp at *; omega)))⟩
  case round =>
    obtain ⟨k, out, hk, rfl, hok, he, ho, hb0⟩ := hrel
    have hB := hb0.size
    by_cases hlt : k < n
    · obtain ⟨b, off, x, rfl, hb, hx, hd, hc⟩ := (hr.below hb0 (Nat.le_refl _)).at_ hlt
      obtain ⟨x0, x1⟩ := q1 x (List.mem_of_getElem? hx)
      have HZ : Hid ((out ++ [((k : Int) + x) % (n : Int)]) ++ lndF n ((k + 1 : Nat) : Int) (p.drop (k + 1)) = lnd p) := by
        show _ = _
        rw [← he.out, hd, lndF_step]; simp
      have hn0 : 1 ≤ (n : Int) := by omega
      clear he hst hx hd hb hr q1
      go_wp2_with (first | (go_at_call 152; refine (period_any _ _ _ _ (by omega)).mono ?_; rintro e w' ⟨rfl, rfl⟩) | (at_builtin; refine push_int ho (((k : Int) + x) % (n : Int)) _ Try.underlying43 inf_int rfl rfl _ _ rfl rfl rfl (by omega) (by omega) ?_; intro v1 w1 ho1 hb1 hg1))
      go_roundw
      case rel => exact ⟨k + 1, out ++ [((k : Int) + x) % (n : Int)], by omega, by go_num, by simp [hok], HZ, ho1, (by repeat' (first | exact Below.refl _ _ | (with_reducible assumption) | (with_reducible refine Below.alloc ?_ ?_ _) | (with_reducible refine Below.setCell ?_ ?_ _) | (with_reducible refine Below.drew ?_) | (with_reducible refine below_drewN ?_ _) | (refine Below.trans ?_ (Below.mono (by assumption) ?_)) | (with_reducible exact Nat.le_refl _) | (with_reducible assumption) | (exact Below.size (by assumption)) | omega | go_size | (simp at *; omega)))⟩
      case measure => simp [intOf]; omega
    · have : k = n := by omega
      subst this
      have := he.out
      rw [List.drop_eq_nil_of_le (by omega)] at this
      simp only [lndF, List.append_nil] at this
      subst this
      go_wp2
      go_ret
      rw [hok] at ho
      exact ⟨_, rfl, ho, hb0⟩
theorem CollisionOf_any (A : Option Addr) (n c : Nat) (p : List Int) (w : World) (hn : n ≤ 1099511627776) (hr : Rd w w.heap.size 1 A n (ints p)) :
    Calls Try.prog 149 #[.slice A n c] w fun e w' => e = .returned (.tuple #[.int .i64 (rCollisionOf p).1, .int .i64 (rCollisionOf p).2.1, .int .i64 (rCollisionOf p).2.2]) ∧ Below w.heap.size w w' := by
  have hlen := hr.len
  by_cases k : thOk p = true
  · have hat := areThrows_any A n c p w hn hr
    rw [k] at hat
    have hat := hid hat
    go_enter Try.func149, Try.ntmps149
    go_wp2_with (first | (go_at_call 167; refine (hat.out).mono ?_; rintro e w' ⟨rfl, rfl⟩) | (go_at_call 168; refine (landings_any _ _ _ _ _ k hr).mono ?_; rintro e w1 ⟨v1, rfl, ho1, hb1⟩; obtain ⟨A1, c1, rfl⟩ := own_form ho1))
    have hst : Hid (col2 (Ld p) (n - 0) 0 = colP p) := by show _ = _; rw [colP, hlen]; rfl
    have hlen' := hid hlen
    have hrc : Hid (rCollisionOf p = colR (colP p)) := by show _ = _; simp [rCollisionOf, k]
    clear hr hlen
    go_loopw [15] (fun i wr => ∃ k : Nat, k ≤ n ∧ i = .int .i64 k ∧ Hid (col2 (Ld p) (n - k) k = colP p) ∧ Below w.heap.size w wr ∧ wr.ownsRow w.heap.size 2 1 (.slice A1 n c1) n (ints (lnd p))) (fun i _ => n - (intOf i).toNat)
    case atStart => exact ⟨0, Nat.zero_le _, rfl, hst, hb1, ho1⟩
    case round =>
    obtain ⟨k, hk, rfl, he, hb0, ho⟩ := hrel
    clear hst hb1 ho1
    by_cases hlt : k < n
    · obtain ⟨b, off, y, rfl, _, hy, _, hcy⟩ := (Rd.of_own ho).at_ hlt
      have hy2 : y = Ld p k := by have := lnd_at p k (by rw [hlen'.out]; exact hlt); rw [this] at hy; exact (Option.some.inj hy).symm
      have HY := hid hy2
      clear hy hcy hy2
      go_wp2
      go_loopw [19] (fun i w2 => ∃ j : Nat, j ≤ k ∧ i = .int .i64 j ∧ Hid (col1 (Ld p) k (k - j) j = col1 (Ld p) k k 0) ∧ Below w.heap.size w w2 ∧ w2.ownsRow w.heap.size 2 1 (.slice (some ⟨b, off, none⟩) n c1) n (ints (lnd p))) (fun i _ => k - (intOf i).toNat)
      case atStart => exact ⟨0, Nat.zero_le _, rfl, rfl, hb0, ho⟩
      case round =>
        obtain ⟨j, hj, rfl, he2, hb2, ho2⟩ := hrel
        clear hb0 ho
        by_cases hlj : j < k
        · obtain ⟨b', off', x, hA', _, hx, _, hcx⟩ := (Rd.of_own ho2).at_ (show j < n by omega)
          obtain ⟨b'', off'', y', hA'', _, hyy, _, hcy⟩ := (Rd.of_own ho2).at_ hlt
          injection hA' with hA'
          injection hA' with e1 e2
          subst e1 e2
          injection hA'' with hA''
          injection hA'' with e1 e2
          subst e1 e2
          have hx2 : x = Ld p j := by have := lnd_at p j (by rw [hlen'.out]; omega); rw [this] at hx; exact (Option.some.inj hx).symm
          have hy2 : y' = Ld p k := by have := lnd_at p k (by rw [hlen'.out]; exact hlt); rw [this] at hyy; exact (Option.some.inj hyy).symm
          have hkj : k - j = (k - (j + 1)) + 1 := by omega
          by_cases hxy : x = y'
          · have hq : (x == y') = true := by simp [hxy]
            have HZ : Hid (rCollisionOf p = ((j : Int), (k : Int), 9)) := by
              show _ = _
              have h3 := he2.out
              rw [hkj] at h3
              have h4 : col1 (Ld p) k (k - (j + 1) + 1) j = some j := by rw [col1, if_pos (by rw [← hx2, ← hy2]; exact hxy)]
              rw [h4] at h3
              have h5 := he.out
              have hkk : n - k = (n - (k + 1)) + 1 := by omega
              rw [hkk, col2_some1 h3.symm] at h5
              rw [hrc.out, ← h5]; rfl
            clear hx hyy hx2 hy2 hxy he he2 hkj hrc
            go_wp2
            go_quiet (fail)
            go_wp2
            go_ret3
            exact ⟨by rw [HZ.out]; rfl, (by repeat' (first | exact Below.refl _ _ | (with_reducible assumption) | (with_reducible refine Below.alloc ?_ ?_ _) | (with_reducible refine Below.setCell ?_ ?_ _) | (with_reducible refine Below.drew ?_) | (with_reducible refine below_drewN ?_ _) | (refine Below.trans ?_ (Below.mono (by assumption) ?_)) | (with_reducible exact Nat.le_refl _) | (with_reducible assumption) | (exact Below.size (by assumption)) | omega | go_size | (simp at *; omega)))⟩
          · have hq : (x == y') = false := by simpa using hxy
            have HZ : Hid (col1 (Ld p) k (k - (j + 1)) (j + 1) = col1 (Ld p) k k 0) := by
              show _ = _
              have h3 := he2.out
              rw [hkj] at h3
              rw [← h3, col1, if_neg (by rw [← hx2, ← hy2]; exact hxy)]
            clear hx hyy hx2 hy2 hxy he2 hkj
            go_wp2
            go_quiet (fail)
            go_wp2
            go_roundw
            case rel => exact ⟨j + 1, by omega, by go_num, HZ, (by repeat' (first | exact Below.refl _ _ | (with_reducible assumption) | (with_reducible refine Below.alloc ?_ ?_ _) | (with_reducible refine Below.setCell ?_ ?_ _) | (with_reducible refine Below.drew ?_) | (with_reducible refine below_drewN ?_ _) | (refine Below.trans ?_ (Below.mono (by assumption) ?_)) | (with_reducible exact Nat.le_refl _) | (with_reducible assumption) | (exact Below.size (by assumption)) | omega | go_size | (simp at *; omega))), ho2⟩
            case measure => simp [intOf]; omega
        · have HZ : Hid (col2 (Ld p) (n - (k + 1)) (k + 1) = colP p) := by
            show _ = _
            have hjk : j = k := by omega
            have h3 := he2.out
            rw [hjk, Nat.sub_self] at h3
            have hkk : n - k = (n - (k + 1)) + 1 := by omega
            rw [← he.out, hkk, col2_none1 h3.symm]
          clear he he2
          go_wp2
          go_roundw
          case rel => exact ⟨k + 1, by omega, by go_num, HZ, hb2, ho2⟩
          case measure => simp [intOf]; omega
    · have HZ : Hid (rCollisionOf p = (-1, -1, 0)) := by
        show _ = _
        have h5 := he.out
        have hkn : n - k = 0 := by omega
        rw [hkn] at h5
        rw [hrc.out, ← h5]; rfl
      clear he hrc
      go_wp2
      go_ret3
      exact ⟨by rw [HZ.out]; rfl, hb0⟩
  · have k : thOk p = false := by simpa using k
    have hat := areThrows_any A n c p w hn hr
    rw [k] at hat
    have hat := hid hat
    have hs : rCollisionOf p = (0, 0, 1) := by simp [rCollisionOf, k]
    rw [hs]
    go_enter Try.func149, Try.ntmps149
    go_wp2_with (first | (go_at_call 167; refine (hat.out).mono ?_; rintro e w' ⟨rfl, rfl⟩))
    go_ret3
    exact ⟨rfl, (by repeat' (first | exact Below.refl _ _ | (with_reducible assumption) | (with_reducible refine Below.alloc ?_ ?_ _) | (with_reducible refine Below.setCell ?_ ?_ _) | (with_reducible refine Below.drew ?_) | (with_reducible refine below_drewN ?_ _) | (refine Below.trans ?_ (Below.mono (by assumption) ?_)) | (with_reducible exact Nat.le_refl _) | (with_reducible assumption) | (exact Below.size (by assumption)) | omega | go_size | (simp at *; omega)))⟩
theorem ValidPattern_any (A : Option Addr) (n c : Nat) (p : List Int) (w : World) (hn : n ≤ 1099511627776) (hr : Rd w w.heap.size 1 A n (ints p)) :
    Calls Try.prog 97 #[.slice A n c] w fun e w' => e = .returned (.bool (okP p)) ∧ Below w.heap.size w w' := by
  have h1 := hid (CollisionOf_any A n c p w hn hr)
  rw [okP_code]
  clear hr
  generalize rCollisionOf p = r at *
  obtain ⟨a, b, d⟩ := r
  go_enter Try.func97, Try.ntmps97
  go_wp2_with (go_at_call 149; refine (h1.out).mono ?_; rintro e w1 ⟨rfl, hb1⟩; first | (have hk1 := bchain (by assumption) hb1; obtain ⟨hc1, hf1, hz1, hl1⟩ := bcell hk1) | (obtain ⟨hc1, hf1, hz1, hl1⟩ := bcell hb1))
  go_ret
  exact ⟨rfl, (by repeat' (first | exact Below.refl _ _ | (with_reducible assumption) | (with_reducible refine Below.alloc ?_ ?_ _) | (with_reducible refine Below.setCell ?_ ?_ _) | (with_reducible refine Below.drew ?_) | (with_reducible refine below_drewN ?_ _) | (refine Below.trans ?_ (Below.mono (by assumption) ?_)) | (with_reducible exact Nat.le_refl _) | (with_reducible assumption) | (exact Below.size (by assumption)) | omega | go_size | (simp at *; omega)))⟩
/-- What l02Clash gives. -/
def clashR : Option (Nat × Nat) → Int × Int
  | some (i, k) => ((i : Int), (k : Int))
  | none => (-1, -1)
theorem l02Clash_any (A : Option Addr) (n c : Nat) (p : List Int) (w : World) (hp : thOk p = true) (hr : Rd w w.heap.size 1 A n (ints p)) :
    Calls Try.prog 151 #[.slice A n c] w fun e w' => e = .returned (.tuple #[.int .i64 (clashR (colP p)).1, .int .i64 (clashR (colP p)).2]) ∧ Below w.heap.size w w' := by
  have hlen := hr.len
  obtain ⟨q1, q2, q3⟩ := thOk_iff hp
  have hst : Hid (col2 (Ld p) (n - 1) 1 = colP p) := by show _ = _; rw [colP_one, hlen]
  obtain ⟨R, hR⟩ : ∃ R, R = colP p := ⟨_, rfl⟩
  rw [← hR] at hst ⊢
  clear hR
  have Q1 := hid q1
  have hlen' := hid hlen
  have hn1 : 1 ≤ n := by omega
  have hn2 : n ≤ 12 := by omega
  clear q1 hlen q2 q3
  go_enter Try.func151, Try.ntmps151
  go_wp2
  go_loopw [5] (fun i wr => ∃ k : Nat, 1 ≤ k ∧ k ≤ n ∧ i = .int .i64 k ∧ Hid (col2 (Ld p) (n - k) k = R) ∧ Below w.heap.size w wr) (fun i _ => n - (intOf i).toNat)
  case atStart => exact ⟨1, by omega, by omega, rfl, hst, (by repeat' (first | exact Below.refl _ _ | (with_reducible assumption) | (with_reducible refine Below.alloc ?_ ?_ _) | (with_reducible refine Below.setCell ?_ ?_ _) | (with_reducible refine Below.drew ?_) | (with_reducible refine below_drewN ?_ _) | (refine Below.trans ?_ (Below.mono (by assumption) ?_)) | (with_reducible exact Nat.le_refl _) | (with_reducible assumption) | (exact Below.size (by assumption)) | omega | go_size | (simp at *; omega)))⟩
  case round =>
    obtain ⟨k, hk1, hk, rfl, he, hb0⟩ := hrel
    clear hst
    by_cases hlt : k < n
    · go_wp2
      go_loopw [6] (fun i w2 => ∃ j : Nat, j ≤ k ∧ i = .int .i64 j ∧ Hid (col1 (Ld p) k (k - j) j = col1 (Ld p) k k 0) ∧ Below w.heap.size w w2) (fun i _ => k - (intOf i).toNat)
      case atStart => exact ⟨0, by omega, rfl, rfl, hb0⟩
      case round =>
        obtain ⟨j, hj, rfl, he2, hb2⟩ := hrel
        clear hb0
        by_cases hlj : j < k
        · obtain ⟨b, off, x, hA', _, hx, _, hcx⟩ := (hr.below hb2 (Nat.le_refl _)).at_ (show j < n by omega)
          obtain ⟨b'', off'', y, hA'', _, hy, _, hcy⟩ := (hr.below hb2 (Nat.le_refl _)).at_ hlt
          subst hA'
          injection hA'' with hA''
          injection hA'' with e1 e2
          subst e1 e2
          obtain ⟨x0, x1⟩ := Q1.out x (List.mem_of_getElem? hx)
          obtain ⟨y0, y1⟩ := Q1.out y (List.mem_of_getElem? hy)
          have hx2 : ((j : Int) + x) % (n : Int) = Ld p j := by rw [Ld, hlen'.out, List.getD_eq_getElem?_getD, hx]; rfl
          have hy2 : ((k : Int) + y) % (n : Int) = Ld p k := by rw [Ld, hlen'.out, List.getD_eq_getElem?_getD, hy]; rfl
          have hkj : k - j = (k - (j + 1)) + 1 := by omega
          by_cases hxy : ((j : Int) + x) % (n : Int) = ((k : Int) + y) % (n : Int)
          · have hq : (((j : Int) + x) % (n : Int) == ((k : Int) + y) % (n : Int)) = true := by simp [hxy]
            have HZ : Hid (clashR R = ((j : Int), (k : Int))) := by
              show _ = _
              have h3 := he2.out
              rw [hkj] at h3
              have h4 : col1 (Ld p) k (k - (j + 1) + 1) j = some j := by rw [col1, if_pos (by rw [← hx2, ← hy2]; exact hxy)]
              rw [h4] at h3
              have h5 := he.out
              have hkk : n - k = (n - (k + 1)) + 1 := by omega
              rw [hkk, col2_some1 h3.symm] at h5
              rw [← h5]; rfl
            clear hx hy hx2 hy2 hxy he he2 hkj hr
            go_wp2
            go_quiet (fail)
            go_wp2
            go_ret2
            exact ⟨by rw [HZ.out]; rfl, (by repeat' (first | exact Below.refl _ _ | (with_reducible assumption) | (with_reducible refine Below.alloc ?_ ?_ _) | (with_reducible refine Below.setCell ?_ ?_ _) | (with_reducible refine Below.drew ?_) | (with_reducible refine below_drewN ?_ _) | (refine Below.trans ?_ (Below.mono (by assumption) ?_)) | (with_reducible exact Nat.le_refl _) | (with_reducible assumption) | (exact Below.size (by assumption)) | omega | go_size | (simp at *; omega)))⟩
          · have hq : (((j : Int) + x) % (n : Int) == ((k : Int) + y) % (n : Int)) = false := by simpa using hxy
            have HZ : Hid (col1 (Ld p) k (k - (j + 1)) (j + 1) = col1 (Ld p) k k 0) := by
              show _ = _
              have h3 := he2.out
              rw [hkj] at h3
              rw [← h3, col1, if_neg (by rw [← hx2, ← hy2]; exact hxy)]
            clear hx hy hx2 hy2 hxy he2 hkj hr
            go_wp2
            go_quiet (fail)
            go_wp2
            go_roundw
            case rel => exact ⟨j + 1, by omega, by go_num, HZ, (by repeat' (first | exact Below.refl _ _ | (with_reducible assumption) | (with_reducible refine Below.alloc ?_ ?_ _) | (with_reducible refine Below.setCell ?_ ?_ _) | (with_reducible refine Below.drew ?_) | (with_reducible refine below_drewN ?_ _) | (refine Below.trans ?_ (Below.mono (by assumption) ?_)) | (with_reducible exact Nat.le_refl _) | (with_reducible assumption) | (exact Below.size (by assumption)) | omega | go_size | (simp at *; omega)))⟩
            case measure => simp [intOf]; omega
        · have HZ : Hid (col2 (Ld p) (n - (k + 1)) (k + 1) = R) := by
            show _ = _
            have hjk : j = k := by omega
            have h3 := he2.out
            rw [hjk, Nat.sub_self] at h3
            have hkk : n - k = (n - (k + 1)) + 1 := by omega
            rw [← he.out, hkk, col2_none1 h3.symm]
          clear he he2
          go_wp2
          go_roundw
          case rel => exact ⟨k + 1, by omega, by omega, by go_num, HZ, hb2⟩
          case measure => simp [intOf]; omega
    · have HZ : Hid (clashR R = (-1, -1)) := by
        show _ = _
        have h5 := he.out
        have hkn : n - k = 0 := by omega
        rw [hkn] at h5
        rw [← h5]; rfl
      clear he
      go_wp2
      go_ret2
      exact ⟨by rw [HZ.out]; rfl, hb0⟩
theorem l02Ok_any (A : Option Addr) (n c : Nat) (p : List Int) (w : World) (hn : n ≤ 1099511627776) (hr : Rd w w.heap.size 1 A n (ints p)) :
    Calls Try.prog 99 #[.slice A n c] w fun e w' => e = .returned (.bool (okP p)) ∧ Below w.heap.size w w' := by
  have hat := l02List_any A n c p w hn hr
  by_cases k : thOk p = true
  · rw [k] at hat
    have hat := hid hat
    have hcl := l02Clash_any A n c p w k hr
    have hs : Hid (okP p = decide ((clashR (colP p)).1 < 0)) := by
      show _ = _
      rw [okP, k]
      cases hc : colP p with
      | none => rfl
      | some x => obtain ⟨a, b⟩ := x; show false = decide ((a : Int) < 0); exact (decide_eq_false (by omega)).symm
    generalize clashR (colP p) = r at *
    obtain ⟨a, b⟩ := r
    have hcl := hid hcl
    clear hr k
    go_enter Try.func99, Try.ntmps99
    go_wp2_with (first | (go_at_call 150; refine (hat.out).mono ?_; rintro e w' ⟨rfl, rfl⟩) | (go_at_call 151; refine (hcl.out).mono ?_; rintro e w1 ⟨rfl, hb1⟩; first | (have hk1 := bchain (by assumption) hb1; obtain ⟨hc1, hf1, hz1, hl1⟩ := bcell hk1) | (obtain ⟨hc1, hf1, hz1, hl1⟩ := bcell hb1)))
    go_ret
    exact ⟨ret_bool hs.out.symm, (by repeat' (first | exact Below.refl _ _ | (with_reducible assumption) | (with_reducible refine Below.alloc ?_ ?_ _) | (with_reducible refine Below.setCell ?_ ?_ _) | (with_reducible refine Below.drew ?_) | (with_reducible refine below_drewN ?_ _) | (refine Below.trans ?_ (Below.mono (by assumption) ?_)) | (with_reducible exact Nat.le_refl _) | (with_reducible assumption) | (exact Below.size (by assumption)) | omega | go_size | (simp at *; omega)))⟩
  · have k : thOk p = false := by simpa using k
    rw [k] at hat
    have hat := hid hat
    have hs : Hid (okP p = false) := by show _ = _; simp [okP, k]
    clear hr k
    go_enter Try.func99, Try.ntmps99
    go_wp2_with (first | (go_at_call 150; refine (hat.out).mono ?_; rintro e w' ⟨rfl, rfl⟩))
    go_ret
    exact ⟨ret_bool hs.out.symm, (by repeat' (first | exact Below.refl _ _ | (with_reducible assumption) | (with_reducible refine Below.alloc ?_ ?_ _) | (with_reducible refine Below.setCell ?_ ?_ _) | (with_reducible refine Below.drew ?_) | (with_reducible refine below_drewN ?_ _) | (refine Below.trans ?_ (Below.mono (by assumption) ?_)) | (with_reducible exact Nat.le_refl _) | (with_reducible assumption) | (exact Below.size (by assumption)) | omega | go_size | (simp at *; omega)))⟩
theorem specValidPattern_any (A : Option Addr) (n c : Nat) (p : List Int) (w : World) (hn : n ≤ 1099511627776) (hr : Rd w w.heap.size 1 A n (ints p)) :
    Calls Try.prog 118 #[.slice A n c] w fun e w' => e = .returned (.bool (okP p)) ∧ Below w.heap.size w w' := by
  have h1 := hid (l02Ok_any A n c p w hn hr)
  clear hr
  go_enter Try.func118, Try.ntmps118
  go_wp2_with (go_at_call 99; refine (h1.out).mono ?_; rintro e w1 ⟨rfl, hb1⟩; first | (have hk1 := bchain (by assumption) hb1; obtain ⟨hc1, hf1, hz1, hl1⟩ := bcell hk1) | (obtain ⟨hc1, hf1, hz1, hl1⟩ := bcell hb1))
  go_ret
  exact ⟨rfl, (by repeat' (first | exact Below.refl _ _ | (with_reducible assumption) | (with_reducible refine Below.alloc ?_ ?_ _) | (with_reducible refine Below.setCell ?_ ?_ _) | (with_reducible refine Below.drew ?_) | (with_reducible refine below_drewN ?_ _) | (refine Below.trans ?_ (Below.mono (by assumption) ?_)) | (with_reducible exact Nat.le_refl _) | (with_reducible assumption) | (exact Below.size (by assumption)) | omega | go_size | (simp at *; omega)))⟩
end Go.Proofs.Ytlbhfjbbkkkldaa
