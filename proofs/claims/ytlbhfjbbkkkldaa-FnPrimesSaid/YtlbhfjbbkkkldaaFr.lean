/- Contracts of FirstRepeat and IsPrime, and the walks of their laws. -/
import Derived.Test.YtlbhfjbbkkkldaaSs
namespace Go.Proofs.Ytlbhfjbbkkkldaa
open Go.RowKit
set_option linter.unusedVariables false

/-- The height of a pattern's own states. -/
def hgt (p : List Int) : Nat := (max 1 (hiT p)).toNat
theorem hgt_int {p : List Int} : ((hgt p : Nat) : Int) = max 1 (hiT p) := by unfold hgt; omega
/-- The masks of a pattern by their places; one place more holds the first again. -/
def mskF (p : List Int) (j : Nat) : Int := if j < p.length then (mskP p (hgt p)).getD j 0 else (mskP p (hgt p)).getD 0 0
/-- The first two beats with equal states. -/
def repC (p : List Int) : Option (Nat × Nat) := col2 (mskF p) p.length 0
def repO (n : Nat) : Option (Nat × Nat) → Nat × Nat
  | some x => x
  | none => (0, n)
def repR (p : List Int) : Nat × Nat := repO p.length (repC p)
theorem col2_snoc {L : Nat → Int} : ∀ (f k : Nat), col2 L (f + 1) k = match col2 L f k with
    | some x => some x
    | none => (col1 L (k + f) (k + f) 0).map fun i => (i, k + f) := by
  intro f
  induction f with
  | zero =>
    intro k
    cases h : col1 L k k 0 with
    | some i => rw [col2_some1 h]; simp [col2]
    | none => rw [col2_none1 h]; simp [col2]
  | succ f ih =>
    intro k
    cases h : col1 L k k 0 with
    | some i => rw [col2_some1 h, col2_some1 h]
    | none =>
      rw [col2_none1 h, ih (k + 1), col2_none1 h]
      have e : k + 1 + f = k + (f + 1) := by omega
      rw [e]
theorem repC_all {p : List Int} (h : 1 ≤ p.length) : col2 (mskF p) (p.length + 1) 0 = some (repR p) := by
  rw [col2_snoc]
  unfold repR repC
  cases hc : col2 (mskF p) p.length 0 with
  | some x => rfl
  | none =>
    rw [Nat.zero_add]
    have e : mskF p 0 = mskF p p.length := by unfold mskF; rw [if_pos (by omega), if_neg (by omega)]
    obtain ⟨f, hf⟩ : ∃ f, p.length = f + 1 := ⟨p.length - 1, by omega⟩
    have : col1 (mskF p) p.length p.length 0 = some 0 := by
      have h2 : ∀ K n, mskF p 0 = mskF p K → n = f + 1 → col1 (mskF p) K n 0 = some 0 := by
        intro K n h3 h4; subst h4; simp [col1, h3]
      exact h2 _ _ e hf
    rw [this]; rfl
theorem repC_one (p : List Int) : repC p = col2 (mskF p) (p.length - 1) 1 := by
  unfold repC
  cases h : p.length with
  | zero => rfl
  | succ n => rw [col2_none1 rfl]; simp
theorem repR_bd {p : List Int} (h : 1 ≤ p.length) : (repR p).1 < (repR p).2 ∧ (repR p).2 ≤ p.length := by
  have := col2_some (repC_all h)
  have h2 := this.2.2.1
  exact ⟨this.1, by rw [Nat.zero_add] at h2; exact Nat.le_of_lt_succ h2⟩
theorem mskF_at {p : List Int} {j : Nat} {x : Int} (hj : j < p.length) (hx : (mskP p (hgt p))[j]? = some x) : mskF p j = x := by
  unfold mskF; rw [if_pos hj, List.getD_eq_getElem?_getD, hx]; rfl
theorem mskF_end {p : List Int} {x : Int} (hx : (mskP p (hgt p))[0]? = some x) : mskF p p.length = x := by
  unfold mskF; rw [if_neg (by omega), List.getD_eq_getElem?_getD, hx]; rfl
theorem two_one (a b : Int) : ∀ u ∈ (#[Value.int .i64 a, Value.int .i64 b] : Array Value).toList, u.oneCell' = true := by
  intro u hu; simp at hu; rcases hu with rfl | rfl <;> rfl
theorem ownStates_any (A : Option Addr) (n c : Nat) (p : List Int) (w : World) (hp : okP p = true) (hr : Rd w w.heap.size 1 A n (ints p)) :
    Calls Try.prog 130 #[.slice A n c] w fun e w' => ∃ v, e = .returned v ∧ w'.ownsRow w.heap.size 119 2 v n (sts (hgt p : Int) (mskP p (hgt p))) ∧ Below w.heap.size w w' := by
  have hb := hiT_bd (okP_th hp)
  have hn : n ≤ 12 := by have := hr.len; have := thOk_iff (okP_th hp); omega
  have hH := highest_any A n c p w (by omega) (fun x hx => (thOk_iff (okP_th hp)).1 x hx) hr
  have hg := hgt_int (p := p)
  have hO := hid (statesOf_any A n c p (hgt p) w (by omega) hp hr)
  by_cases h1 : hiT p < 1
  · have e : ((hgt p : Nat) : Int) = 1 := by omega
    have e0 : hiT p = 0 := by omega
    rw [e] at hO ⊢
    rw [e0] at hH
    have hH := hid hH
    clear hp hr hb e e0 h1 hg
    go_enter Try.func130, Try.ntmps130
    go_wp2_with (first | (go_at_call 161; refine (hH.out).mono ?_; rintro e w' ⟨rfl, rfl⟩) | (go_at_call 162; refine hO.out.mono ?_; rintro e w2 ⟨v2, rfl, ho2, hb2⟩))
    go_ret
    exact ⟨_, rfl, ho2, hb2⟩
  · have e : ((hgt p : Nat) : Int) = hiT p := by omega
    rw [e] at hO ⊢
    have hH := hid hH
    generalize hiT p = M at *
    clear hp hr hb e hg
    go_enter Try.func130, Try.ntmps130
    go_wp2_with (first | (go_at_call 161; refine (hH.out).mono ?_; rintro e w' ⟨rfl, rfl⟩) | (go_at_call 162; refine hO.out.mono ?_; rintro e w2 ⟨v2, rfl, ho2, hb2⟩))
    go_ret
    exact ⟨_, rfl, ho2, hb2⟩
theorem l11Height_any (A : Option Addr) (n c : Nat) (p : List Int) (w : World) (hp : okP p = true) (hr : Rd w w.heap.size 1 A n (ints p)) :
    Calls Try.prog 180 #[.slice A n c] w fun e w' => e = .returned (.int .i64 (hgt p)) ∧ w = w' := by
  have hn : n ≤ 12 := by have := hr.len; have := thOk_iff (okP_th hp); omega
  have hH := hid (l02High_any A n c p w (by omega) (fun x hx => (thOk_iff (okP_th hp)).1 x hx) hr)
  have hg := hid (hgt_int (p := p))
  clear hp hr
  go_enter Try.func180, Try.ntmps180
  go_wp2_with (first | (go_at_call 158; refine (hH.out).mono ?_; rintro e w' ⟨rfl, rfl⟩) | (go_at_call 157; refine (l00Max_any _ _ _).mono ?_; rintro e w' ⟨rfl, rfl⟩))
  go_ret
  exact ⟨ret_int hg.out.symm, rfl⟩
set_option maxHeartbeats 1000000 in
theorem firstRepeat_any (A : Option Addr) (n c : Nat) (p : List Int) (w : World) (hp : okP p = true) (hr : Rd w w.heap.size 1 A n (ints p)) :
    Calls Try.prog 129 #[.slice A n c] w fun e w' => e = .returned (.tuple #[.int .i64 ((repR p).1 : Nat), .int .i64 ((repR p).2 : Nat)]) ∧ Below w.heap.size w w' := by
  have hlen := hr.len
  have hth := thOk_iff (okP_th hp)
  have hn1 : 1 ≤ n := by omega
  have hn2 : n ≤ 12 := by omega
  have hml := mskP_len p (hgt p)
  rw [hlen] at hml
  have hO := hid (ownStates_any A n c p w hp hr)
  have hst : Hid (col2 (mskF p) (n + 1 - 0) 0 = some (repR p)) := by show _ = _; rw [← hlen]; exact repC_all (by omega)
  obtain ⟨z, hz⟩ : ∃ z, (mskP p (hgt p))[0]? = some z := ⟨_, List.getElem?_eq_getElem (by omega)⟩
  have hF := hid (fun (j : Nat) (x : Int) (hx : (mskP p (hgt p) ++ [z])[j]? = some x) => show mskF p j = x by
    rcases Nat.lt_or_ge j n with k | k
    · rw [List.getElem?_append_left (by omega)] at hx
      exact mskF_at (by omega) hx
    · have hj : j < n + 1 := by have := (List.getElem?_eq_some_iff.1 hx).1; simp at this; omega
      have e : j = p.length := by omega
      rw [List.getElem?_append_right (by omega), hml, show j - n = 0 by omega] at hx
      have hx : z = x := Option.some.inj hx
      rw [e, ← hx]; exact mskF_end hz)
  have HZ := hid hz
  generalize mskP p (hgt p) = L at *
  generalize hgt p = H at *
  generalize repR p = R at *
  obtain ⟨Ri, Rk⟩ := R
  generalize mskF p = F at *
  obtain ⟨N, hN⟩ : ∃ N, n + 1 = N := ⟨_, rfl⟩
  rw [hN] at hst
  have hN1 : N ≤ 13 := by omega
  have hN := hid hN
  clear hr hlen hth hp
  go_enter Try.func129, Try.ntmps129
  go_wp2_with (first | (go_at_call 130; refine hO.out.mono ?_; rintro e w1 ⟨v1, rfl, ho1, hb1⟩; obtain ⟨A1, c1, rfl⟩ := own_form ho1; have hz1 := hb1.size; obtain ⟨b, off, x, rfl, _, hx, hc0, hc1⟩ := (Rd.of_own ho1).st_at (i := 0) (by omega); obtain rfl : z = x := Option.some.inj (HZ.out.symm.trans hx); rw [Nat.zero_mul, Nat.add_zero] at hc0 hc1) | (at_builtin; refine push_own ho1 #[.int .i64 (H : Int), .int .i64 z] _ Try.underlying116 inf_state rfl (by omega) rfl _ _ rfl rfl rfl rfl (two_one _ _) (by omega) (by omega) hz1 ?_; intro v2 w2 ho2 hb2 hg2; have ho2 := ho2; rw [show (#[Value.int .i64 (H : Int), Value.int .i64 z] : Array Value).toList = [.int .i64 (H : Int), .int .i64 z] from rfl, sts_snoc, hN.out] at ho2; obtain ⟨A2, c2, rfl⟩ := own_form ho2; have hRd := hid (Rd.of_own ho2); have hB2 := hid (hb1.trans hb2)))
  go_loopw [17] (fun i wr => ∃ k : Nat, k ≤ N ∧ i = .int .i64 k ∧ Hid (col2 F (N - k) k = some (Ri, Rk)) ∧ Below w2.heap.size w2 wr) (fun i _ => N - (intOf i).toNat)
  case atStart => exact ⟨0, by omega, rfl, hst, Below.refl _ _⟩
  case round =>
    obtain ⟨k, hk, rfl, he, hb0⟩ := hrel
    clear hst
    by_cases hlt : k < N
    · obtain ⟨b, off, y, rfl, hb, hy, hd0, hd1⟩ := (hRd.out.below hb0 (Nat.le_refl _)).st_at hlt
      have HY := hid (hF.out k y hy)
      clear hy hb hd0 hd1
      go_wp2
      go_loopw [21] (fun i wx => ∃ j : Nat, j ≤ k ∧ i = .int .i64 j ∧ Hid (col1 F k (k - j) j = col1 F k k 0) ∧ Below w2.heap.size w2 wx) (fun i _ => k - (intOf i).toNat)
      case atStart => exact ⟨0, Nat.zero_le _, rfl, rfl, hb0⟩
      case round =>
        obtain ⟨j, hj, rfl, he2, hb2'⟩ := hrel
        clear hb0
        by_cases hlj : j < k
        · obtain ⟨b', off', x, hA', _, hx, hc0, hc1⟩ := (hRd.out.below hb2' (Nat.le_refl _)).st_at (i := j) (by omega)
          injection hA' with hA'
          injection hA' with e1 e2
          subst e1 e2
          obtain ⟨b'', off'', y', hA', _, hy, hd0, hd1⟩ := (hRd.out.below hb2' (Nat.le_refl _)).st_at (i := k) hlt
          injection hA' with hA'
          injection hA' with e1 e2
          subst e1 e2
          obtain rfl : y = y' := HY.out.symm.trans (hF.out k y' hy)
          have hxF := hF.out j x hx
          have hkj : k - j = (k - (j + 1)) + 1 := by omega
          by_cases hxy : x = y
          · have HW : Hid (((j, k) : Nat × Nat) = (Ri, Rk)) := by
              show _ = _
              have h3 := he2.out
              rw [hkj] at h3
              have h4 : col1 F k (k - (j + 1) + 1) j = some j := by rw [col1, if_pos (by rw [hxF, HY.out, hxy])]
              rw [h4] at h3
              have h5 := he.out
              have hkk : N - k = (N - (k + 1)) + 1 := by omega
              rw [hkk, col2_some1 h3.symm] at h5
              exact Option.some.inj h5
            subst hxy
            clear hx hy hxF he he2 hkj
            go_wp2
            go_quiet (fail)
            go_wp2
            go_ret2
            have hW := HW.out
            simp only [Prod.mk.injEq] at hW
            obtain ⟨rfl, rfl⟩ := hW
            exact ⟨rfl, hB2.out.trans ((show Below w2.heap.size w2 _ from (by repeat' (first | exact Below.refl _ _ | (with_reducible assumption) | (with_reducible refine Below.alloc ?_ ?_ _) | (with_reducible refine Below.setCell ?_ ?_ _) | (with_reducible refine Below.drew ?_) | (with_reducible refine below_drewN ?_ _) | (refine Below.trans ?_ (Below.mono (by assumption) ?_)) | (with_reducible exact Nat.le_refl _) | (with_reducible assumption) | (exact Below.size (by assumption)) | omega | go_size | (simp at *; omega)))).mono hB2.out.size)⟩
          · have hq : (x == y) = false := by simpa using hxy
            have hq2 : decide (x = y) = false := by simpa using hxy
            have HW : Hid (col1 F k (k - (j + 1)) (j + 1) = col1 F k k 0) := by
              show _ = _
              have h3 := he2.out
              rw [hkj] at h3
              rw [← h3, col1, if_neg (by rw [hxF, HY.out]; exact hxy)]
            clear hx hy hxF he2 hkj
            go_wp2
            go_quiet (fail)
            go_wp2
            go_roundw
            case rel => first | exact ⟨j + 1, by omega, by go_num, HW, (by repeat' (first | exact Below.refl _ _ | (with_reducible assumption) | (with_reducible refine Below.alloc ?_ ?_ _) | (with_reducible refine Below.setCell ?_ ?_ _) | (with_reducible refine Below.drew ?_) | (with_reducible refine below_drewN ?_ _) | (refine Below.trans ?_ (Below.mono (by assumption) ?_)) | (with_reducible exact Nat.le_refl _) | (with_reducible assumption) | (exact Below.size (by assumption)) | omega | go_size | (simp at *; omega)))⟩ | ((repeat apply Exists.intro); exact ⟨⟨j + 1, by omega, by go_num, HW, (by repeat' (first | exact Below.refl _ _ | (with_reducible assumption) | (with_reducible refine Below.alloc ?_ ?_ _) | (with_reducible refine Below.setCell ?_ ?_ _) | (with_reducible refine Below.drew ?_) | (with_reducible refine below_drewN ?_ _) | (refine Below.trans ?_ (Below.mono (by assumption) ?_)) | (with_reducible exact Nat.le_refl _) | (with_reducible assumption) | (exact Below.size (by assumption)) | omega | go_size | (simp at *; omega)))⟩, rfl⟩)
            case measure => simp [intOf]; omega
        · have HW : Hid (col2 F (N - (k + 1)) (k + 1) = some (Ri, Rk)) := by
            show _ = _
            have hjk : j = k := by omega
            have h3 := he2.out
            rw [hjk, Nat.sub_self] at h3
            have hkk : N - k = (N - (k + 1)) + 1 := by omega
            rw [← he.out, hkk, col2_none1 h3.symm]
          clear he he2
          go_wp2
          go_roundw
          case rel => exact ⟨k + 1, by omega, by go_num, HW, hb2'⟩
          case measure => simp [intOf]; omega
    · exfalso
      have h5 := he.out
      rw [show N - k = 0 by omega, col2] at h5
      cases h5

set_option maxHeartbeats 1000000 in
theorem l11Repeat_any (A : Option Addr) (n c : Nat) (p : List Int) (w : World) (hp : okP p = true) (hr : Rd w w.heap.size 1 A n (ints p)) :
    Calls Try.prog 163 #[.slice A n c] w fun e w' => e = .returned (.tuple #[.int .i64 ((repR p).1 : Nat), .int .i64 ((repR p).2 : Nat)]) ∧ Below w.heap.size w w' := by
  have hlen := hr.len
  have hth := thOk_iff (okP_th hp)
  have hn1 : 1 ≤ n := by omega
  have hn2 : n ≤ 12 := by omega
  have hml := mskP_len p (hgt p)
  rw [hlen] at hml
  have hG := hid (l11Height_any A n c p w hp hr)
  have hO := hid (l08States_any A n c p (hgt p) w (by have := hgt_int (p := p); have := hiT_bd (okP_th hp); omega) hp hr)
  obtain ⟨R, hR⟩ : ∃ R, repC p = R := ⟨_, rfl⟩
  have hst : Hid (col2 (mskF p) (n - 1) 1 = R) := by show _ = _; rw [← hlen, ← repC_one]; exact hR
  have hs : Hid (repR p = repO n R) := by show _ = _; rw [repR, hR, hlen]
  have hF := hid (fun (j : Nat) (x : Int) (hx : (mskP p (hgt p))[j]? = some x) => show mskF p j = x from mskF_at (by have := (List.getElem?_eq_some_iff.1 hx).1; omega) hx)
  generalize mskP p (hgt p) = L at *
  generalize hgt p = H at *
  generalize repR p = RR at *
  generalize mskF p = F at *
  clear hr hlen hth hp hR
  go_enter Try.func163, Try.ntmps163
  go_wp2_with (first | (go_at_call 180; refine (hG.out).mono ?_; rintro e w' ⟨rfl, rfl⟩) | (go_at_call 179; refine hO.out.mono ?_; rintro e w2 ⟨v2, rfl, ho2, hb2⟩; obtain ⟨A2, c2, rfl⟩ := own_form ho2; have hRd := hid (Rd.of_own ho2); have hB2 := hid hb2))
  go_loopw [5] (fun i wr => ∃ k : Nat, 1 ≤ k ∧ k ≤ n ∧ i = .int .i64 k ∧ Hid (col2 F (n - k) k = R) ∧ Below w2.heap.size w2 wr) (fun i _ => n - (intOf i).toNat)
  case atStart => exact ⟨1, Nat.le_refl _, by omega, rfl, hst, Below.refl _ _⟩
  case round =>
    obtain ⟨k, hk1, hk, rfl, he, hb0⟩ := hrel
    clear hst
    by_cases hlt : k < n
    · obtain ⟨b, off, y, rfl, hb, hy, hd0, hd1⟩ := (hRd.out.below hb0 (Nat.le_refl _)).st_at hlt
      have HY := hid (hF.out k y hy)
      clear hy hb hd0 hd1
      go_wp2
      go_loopw [6] (fun i wx => ∃ j : Nat, j ≤ k ∧ i = .int .i64 j ∧ Hid (col1 F k (k - j) j = col1 F k k 0) ∧ Below w2.heap.size w2 wx) (fun i _ => k - (intOf i).toNat)
      case atStart => exact ⟨0, Nat.zero_le _, rfl, rfl, hb0⟩
      case round =>
        obtain ⟨j, hj, rfl, he2, hb2'⟩ := hrel
        clear hb0
        by_cases hlj : j < k
        · obtain ⟨b', off', x, hA', _, hx, hc0, hc1⟩ := (hRd.out.below hb2' (Nat.le_refl _)).st_at (i := j) (by omega)
          injection hA' with hA'
          injection hA' with e1 e2
          subst e1 e2
          obtain ⟨b'', off'', y', hA', _, hy, hd0, hd1⟩ := (hRd.out.below hb2' (Nat.le_refl _)).st_at (i := k) hlt
          injection hA' with hA'
          injection hA' with e1 e2
          subst e1 e2
          obtain rfl : y = y' := HY.out.symm.trans (hF.out k y' hy)
          have hxF := hF.out j x hx
          have hkj : k - j = (k - (j + 1)) + 1 := by omega
          by_cases hxy : x = y
          · have HW : Hid (R = some (j, k)) := by
              show _ = _
              have h3 := he2.out
              rw [hkj] at h3
              have h4 : col1 F k (k - (j + 1) + 1) j = some j := by rw [col1, if_pos (by rw [hxF, HY.out, hxy])]
              rw [h4] at h3
              have h5 := he.out
              have hkk : n - k = (n - (k + 1)) + 1 := by omega
              rw [hkk, col2_some1 h3.symm] at h5
              exact h5.symm
            subst hxy
            clear hx hy hxF he he2 hkj
            go_wp2
            go_quiet (fail)
            go_wp2
            go_ret2
            have hW := HW.out
            have hS := hs.out
            rw [hW] at hS
            simp only [repO] at hS
            subst hS
            exact ⟨rfl, hB2.out.trans ((show Below w2.heap.size w2 _ from (by repeat' (first | exact Below.refl _ _ | (with_reducible assumption) | (with_reducible refine Below.alloc ?_ ?_ _) | (with_reducible refine Below.setCell ?_ ?_ _) | (with_reducible refine Below.drew ?_) | (with_reducible refine below_drewN ?_ _) | (refine Below.trans ?_ (Below.mono (by assumption) ?_)) | (with_reducible exact Nat.le_refl _) | (with_reducible assumption) | (exact Below.size (by assumption)) | omega | go_size | (simp at *; omega)))).mono hB2.out.size)⟩
          · have hq : (x == y) = false := by simpa using hxy
            have hq2 : decide (x = y) = false := by simpa using hxy
            have HW : Hid (col1 F k (k - (j + 1)) (j + 1) = col1 F k k 0) := by
              show _ = _
              have h3 := he2.out
              rw [hkj] at h3
              rw [← h3, col1, if_neg (by rw [hxF, HY.out]; exact hxy)]
            clear hx hy hxF he2 hkj
            go_wp2
            go_quiet (fail)
            go_wp2
            go_roundw
            case rel => first | exact ⟨j + 1, by omega, by go_num, HW, (by repeat' (first | exact Below.refl _ _ | (with_reducible assumption) | (with_reducible refine Below.alloc ?_ ?_ _) | (with_reducible refine Below.setCell ?_ ?_ _) | (with_reducible refine Below.drew ?_) | (with_reducible refine below_drewN ?_ _) | (refine Below.trans ?_ (Below.mono (by assumption) ?_)) | (with_reducible exact Nat.le_refl _) | (with_reducible assumption) | (exact Below.size (by assumption)) | omega | go_size | (simp at *; omega)))⟩ | ((repeat apply Exists.intro); exact ⟨⟨j + 1, by omega, by go_num, HW, (by repeat' (first | exact Below.refl _ _ | (with_reducible assumption) | (with_reducible refine Below.alloc ?_ ?_ _) | (with_reducible refine Below.setCell ?_ ?_ _) | (with_reducible refine Below.drew ?_) | (with_reducible refine below_drewN ?_ _) | (refine Below.trans ?_ (Below.mono (by assumption) ?_)) | (with_reducible exact Nat.le_refl _) | (with_reducible assumption) | (exact Below.size (by assumption)) | omega | go_size | (simp at *; omega)))⟩, rfl⟩)
            case measure => simp [intOf]; omega
        · have HW : Hid (col2 F (n - (k + 1)) (k + 1) = R) := by
            show _ = _
            have hjk : j = k := by omega
            have h3 := he2.out
            rw [hjk, Nat.sub_self] at h3
            have hkk : n - k = (n - (k + 1)) + 1 := by omega
            rw [← he.out, hkk, col2_none1 h3.symm]
          clear he he2
          go_wp2
          go_roundw
          case rel => exact ⟨k + 1, by omega, by omega, by go_num, HW, hb2'⟩
          case measure => simp [intOf]; omega
    · have h5 := he.out
      rw [show n - k = 0 by omega, col2] at h5
      have hS := hs.out
      rw [← h5] at hS
      simp only [repO] at hS
      have HS := hid hS
      clear he h5 hS
      go_wp2
      go_ret2
      exact ⟨by rw [HS.out]; rfl, hB2.out.trans (hb0.mono hB2.out.size)⟩

end Go.Proofs.Ytlbhfjbbkkkldaa
