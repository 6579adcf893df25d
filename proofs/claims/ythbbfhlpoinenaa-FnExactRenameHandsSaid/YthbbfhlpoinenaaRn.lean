/- Contracts of RenameHands, and the walk of its law. -/
import Derived.Test.YthbbfhlpoinenaaW
import Derived.Test.YthbbfhlpoinenaaO
namespace Go.Proofs.Ythbbfhlpoinenaa
open Go.RowKit
set_option linter.unusedVariables false

/-- A list of N numbers in which each of 0 .. N - 1 lies. -/
def permOk (N : Nat) (q : List Int) : Bool := decide (q.length = N) && (List.range N).all fun h => decide ((h : Int) ∈ q)
theorem permOk_iff {N : Nat} {q : List Int} : permOk N q = true ↔ q.length = N ∧ ∀ h : Nat, h < N → (h : Int) ∈ q := by
  simp [permOk, List.all_eq_true]
theorem perm_both {N : Nat} {q : List Int} (h : permOk N q = true) {i : Nat} {x : Int} (hx : q[i]? = some x) : (0 ≤ x ∧ x < N) ∧ x ∉ q.take i := by
  obtain ⟨hl, hm⟩ := permOk_iff.1 h
  have hex : ∀ h : Nat, ∃ j, h < N → j < N ∧ q[j]? = some (h : Int) := by
    intro h
    by_cases hh : h < N
    · obtain ⟨j, hj⟩ := List.getElem?_of_mem (hm h hh)
      exact ⟨j, fun _ => ⟨by have := (List.getElem?_eq_some_iff.1 hj).1; omega, hj⟩⟩
    · exact ⟨0, fun e => absurd e hh⟩
  obtain ⟨f, hf⟩ := Classical.axiomOfChoice hex
  have hon := onto N f (fun i hi => (hf i hi).1) (fun i j hi hj hne e => by
    have a := (hf i hi).2
    have b := (hf j hj).2
    rw [e, b] at a
    have : (j : Int) = i := Option.some.inj a
    omega)
  have hall : ∀ k y, q[k]? = some y → ∃ r, r < N ∧ f r = k ∧ y = (r : Int) := by
    intro k y hy
    have hk : k < N := by have := (List.getElem?_eq_some_iff.1 hy).1; omega
    obtain ⟨r, hr, e⟩ := hon k hk
    have := (hf r hr).2
    rw [e, hy] at this
    exact ⟨r, hr, e, Option.some.inj this⟩
  obtain ⟨r, hr, e, rfl⟩ := hall i x hx
  refine ⟨⟨by omega, by omega⟩, fun hin => ?_⟩
  obtain ⟨j, hj⟩ := List.getElem?_of_mem hin
  have hj2 : j < i := by
    have := (List.getElem?_eq_some_iff.1 hj).1
    rw [List.length_take] at this; omega
  rw [List.getElem?_take_of_lt hj2] at hj
  obtain ⟨r2, _, e2, e3⟩ := hall j _ hj
  have : r = r2 := by omega
  subst this
  omega
theorem perm_of {N : Nat} {q : List Int} (hl : q.length = N) (h : ∀ (i : Nat) (x : Int), i < q.length → q[i]? = some x → (0 ≤ x ∧ x < N) ∧ x ∉ q.take i) : permOk N q = true := by
  have hex : ∀ i : Nat, ∃ t : Nat, i < N → q[i]? = some (t : Int) ∧ t < N := by
    intro i
    by_cases hi : i < N
    · have hq : q[i]? = some (q[i]'(by omega)) := List.getElem?_eq_getElem (by omega)
      obtain ⟨⟨a, b⟩, _⟩ := h i _ (by omega) hq
      exact ⟨(q[i]'(by omega)).toNat, fun _ => ⟨by rw [hq, Int.toNat_of_nonneg a], by omega⟩⟩
    · exact ⟨0, fun e => absurd e hi⟩
  obtain ⟨f, hf⟩ := Classical.axiomOfChoice hex
  have hlt : ∀ i j, i < j → j < N → f i ≠ f j := by
    intro i j hij hj e
    have a := (hf i (by omega)).1
    have b := (hf j hj).1
    refine (h j _ (by omega) b).2 ?_
    rw [← e]
    apply List.mem_of_getElem? (i := i)
    rw [List.getElem?_take_of_lt hij, a]
  refine permOk_iff.2 ⟨hl, fun r hr => ?_⟩
  obtain ⟨i, hi, e⟩ := onto N f (fun i hi => (hf i hi).2) (fun i j hi hj hne e => by
    rcases Nat.lt_or_gt_of_ne hne with h1 | h1
    · exact hlt i j h1 hj e
    · exact hlt j i h1 hi e.symm) r hr
  have := (hf i hi).1
  rw [e] at this
  exact List.mem_of_getElem? this
def nameAt (q : List Int) (h : Int) : Int := q.getD h.toNat 0
/-- What RenameHands gives. -/
def rRenameHands (p q : List Int) : List Int × Int := if hdOk p then if permOk (hdCnt p).toNat q then (p.map (nameAt q), 0) else ([], 2) else ([], 1)
theorem rn_ok {p q : List Int} {N : Nat} (h : hdOk p = true) (hN : hdCnt p = (N : Int)) (k : permOk N q = true) : rRenameHands p q = (p.map (nameAt q), 0) := by simp [rRenameHands, h, hN, k]
theorem rn_no {p q : List Int} {N : Nat} (h : hdOk p = true) (hN : hdCnt p = (N : Int)) (k : permOk N q = false) : rRenameHands p q = ([], 2) := by simp [rRenameHands, h, hN, k]
theorem hdOk_all {p : List Int} (h : hdOk p = true) : (∀ x ∈ p, 0 ≤ x ∧ x ≤ 3) ∧ 1 ≤ p.length ∧ p.length ≤ 12 := by
  simp only [hdOk, Bool.and_eq_true, betweenB_iff, List.all_eq_true] at h
  exact ⟨h.1.1, by omega, by omega⟩
theorem RenameHands_len (p q : List Int) : (rRenameHands p q).1.length ≤ 12 := by
  unfold rRenameHands
  split
  · rename_i h
    split
    · simpa using (hdOk_all h).2.2
    · simp
  · simp
theorem hdCnt_nat {p : List Int} (h : hdOk p = true) : ∃ N : Nat, hdCnt p = (N : Int) ∧ 1 ≤ N ∧ N ≤ 4 ∧ ∀ x ∈ p, 0 ≤ x ∧ x < N := by
  obtain ⟨hall, _, _⟩ := hdOk_all h
  have hcb : 0 ≤ maxF 0 p ∧ maxF 0 p ≤ 3 := maxF_bd p 0 3 (by omega) (fun x hx => (hall x hx).2)
  refine ⟨(maxF 0 p + 1).toNat, by rw [hdCnt]; omega, by omega, by omega, fun x hx => ⟨(hall x hx).1, ?_⟩⟩
  have := maxF_mem p 0 x hx
  omega

set_option maxHeartbeats 2000000 in
theorem RenameHands_any (A : Option Addr) (n c : Nat) (p : List Int) (A2 : Option Addr) (n2 c2 : Nat) (q : List Int) (w : World) (hn : n ≤ 1099511627776) (hr : Rd w w.heap.size 1 A n (ints p)) (hn2 : n2 ≤ 1099511627776) (hr2 : Rd w w.heap.size 1 A2 n2 (ints q)) :
    Calls Try.prog 20 #[.slice A n c, .slice A2 n2 c2] w fun e w' => ∃ v, e = .returned (.tuple #[v, .int .i64 (rRenameHands p q).2]) ∧ w'.ownsRow w.heap.size 2 1 v (rRenameHands p q).1.length (ints (rRenameHands p q).1) ∧ Below w.heap.size w w' := by
  have hV := ValidHands_any A n c p w hn hr
  have hlen := hr.len
  have hlen2 := hr2.len
  by_cases k : hdOk p = true
  · rw [k] at hV
    have hV := hid hV
    obtain ⟨hall, q2, q3⟩ := hdOk_all k
    obtain ⟨N, hN, hN1, hN4, hpN⟩ := hdCnt_nat k
    have hYes := hid (fun (e : permOk N q = true) => rn_ok (q := q) k hN e)
    have hNo := hid (fun (e : permOk N q = false) => rn_no (q := q) k hN e)
    have hC := hid (fun (w1 : World) (r : Rd w1 w1.heap.size 1 A n (ints p)) => handCount_any A n c p w1 hn hall r)
    rw [hN] at hC
    have hR := hid hr
    have hR2 := hid hr2
    have hPN := hid hpN
    have hlp := hid hlen
    have hlq := hid hlen2
    have hn12 : n ≤ 12 := by omega
    clear hall hN q2 q3 k hr hr2 hlen hlen2 hpN
    go_enter Try.func20, Try.ntmps20
    go_wp2_with (go_at_call 59; refine hV.out.mono ?_; rintro e w1 ⟨rfl, hb1⟩; have hz1 := hb1.size)
    have hC1 := hid (hC.out w1 ((hR.out.below hb1 (Nat.le_refl _)).more hb1.size))
    clear hC
    go_wp2_with (go_at_call 60; refine (hC1.out).mono ?_; rintro e w' ⟨rfl, rfl⟩)
    have hbx : Bx (w1.alloc (Obj.cells #[.bool false, .bool false, .bool false, .bool false] 61)) w1.heap.size 61 (seenA (q.take 0)) := Bx.new _ _ _
    go_loopw [21] (fun i wr => ∃ k : Nat, k ≤ n2 ∧ i = .int .i64 k ∧ Hid (∀ (i : Nat) (x : Int), i < k → q[i]? = some x → (0 ≤ x ∧ x < N) ∧ x ∉ q.take i) ∧ Bx wr w1.heap.size 61 (seenA (q.take k)) ∧ Below w.heap.size w wr) (fun i _ => n2 - (intOf i).toNat)
    case atStart => exact ⟨0, Nat.zero_le _, rfl, fun i x hi => absurd hi (by omega), hbx, (by repeat' (first | exact Below.refl _ _ | (with_reducible assumption) | (with_reducible refine Below.alloc ?_ ?_ _) | (with_reducible refine Below.setCell ?_ ?_ _) | (with_reducible refine Below.drew ?_) | (with_reducible refine below_drewN ?_ _) | (refine Below.trans ?_ (Below.mono (by assumption) ?_)) | (with_reducible exact Nat.le_refl _) | (with_reducible assumption) | (exact Below.size (by assumption)) | omega | go_size | (simp at *; omega)))⟩
    case round =>
    obtain ⟨k, hk, rfl, he, hbx, hb0⟩ := hrel
    have hz0 := hb0.size
    by_cases hlt : k < n2
    · obtain ⟨b, off, x, rfl, hb, hx, hd, hc⟩ := (hR2.out.below hb0 (Nat.le_refl _)).at_ hlt
      by_cases hx2 : betweenB x 0 ((N : Int) - 1) = true
      · obtain ⟨x0, x1⟩ := (betweenB_iff _ _ _).1 hx2
        have hcell : wr.cell? ⟨w1.heap.size, x.toNat, none⟩ = some (.bool (decide (x ∈ q.take k))) := (hbx.cell _).trans (seenA_at _ _ x0 (by omega))
        have hfz := hbx.frozen x.toNat
        have hx4 : x < 4 := by omega
        by_cases hm : x ∈ q.take k
        · rw [decide_eq_true hm] at hcell
          have HZ : Hid (rRenameHands p q = ([], 2)) := by
            refine hNo.out ?_
            cases hh : permOk N q with
            | false => rfl
            | true => exact absurd hm (perm_both hh hx).2
          clear he hx hd hb hm hYes hNo hbx
          go_wp2_with (go_at_call 61; refine (between_any _ _ _ _).mono ?_; rintro e w' ⟨rfl, rfl⟩)
          go_ret2
          rw [HZ.out]
          exact ⟨_, rfl, World.ownsRow_nil _ _ _ _, (by repeat' (first | exact Below.refl _ _ | (with_reducible assumption) | (with_reducible refine Below.alloc ?_ ?_ _) | (with_reducible refine Below.setCell ?_ ?_ _) | (with_reducible refine Below.drew ?_) | (with_reducible refine below_drewN ?_ _) | (refine Below.trans ?_ (Below.mono (by assumption) ?_)) | (with_reducible exact Nat.le_refl _) | (with_reducible assumption) | (exact Below.size (by assumption)) | omega | go_size | (simp at *; omega)))⟩
        · rw [decide_eq_false hm] at hcell
          have hbx2 := hbx.set_ x.toNat (.bool true)
          rw [seenA_set _ _ x0 (by omega), show q.take k ++ [x] = q.take (k + 1) by rw [List.take_add_one, hx]; rfl] at hbx2
          have HB := hid hbx2
          have HZ : Hid (∀ (i : Nat) (x : Int), i < k + 1 → q[i]? = some x → (0 ≤ x ∧ x < N) ∧ x ∉ q.take i) := fun i y hi hy => by
            rcases Nat.lt_or_eq_of_le (Nat.le_of_lt_succ hi) with h | rfl
            · exact he.out i y h hy
            · rw [hx] at hy
              obtain rfl : x = y := Option.some.inj hy
              exact ⟨⟨x0, by omega⟩, hm⟩
          clear he hx hd hb hm hYes hNo hbx hbx2
          go_wp2_with (go_at_call 61; refine (between_any _ _ _ _).mono ?_; rintro e w' ⟨rfl, rfl⟩)
          go_roundw
          case rel => exact ⟨k + 1, by omega, by go_num, HZ, HB.out, (by repeat' (first | exact Below.refl _ _ | (with_reducible assumption) | (with_reducible refine Below.alloc ?_ ?_ _) | (with_reducible refine Below.setCell ?_ ?_ _) | (with_reducible refine Below.drew ?_) | (with_reducible refine below_drewN ?_ _) | (refine Below.trans ?_ (Below.mono (by assumption) ?_)) | (with_reducible exact Nat.le_refl _) | (with_reducible assumption) | (exact Below.size (by assumption)) | omega | go_size | (simp at *; omega)))⟩
          case measure => simp [intOf]; omega
      · have HZ : Hid (rRenameHands p q = ([], 2)) := by
          refine hNo.out ?_
          cases hh : permOk N q with
          | false => rfl
          | true =>
            have := (perm_both hh hx).1
            exact absurd ((betweenB_iff _ _ _).2 ⟨this.1, by omega⟩) hx2
        have hx2 : betweenB x 0 ((N : Int) - 1) = false := by simpa using hx2
        clear he hx hd hb hYes hNo hbx
        go_wp2_with (go_at_call 61; refine (between_any _ _ _ _).mono ?_; rintro e w' ⟨rfl, rfl⟩)
        go_ret2
        rw [HZ.out]
        exact ⟨_, rfl, World.ownsRow_nil _ _ _ _, (by repeat' (first | exact Below.refl _ _ | (with_reducible assumption) | (with_reducible refine Below.alloc ?_ ?_ _) | (with_reducible refine Below.setCell ?_ ?_ _) | (with_reducible refine Below.drew ?_) | (with_reducible refine below_drewN ?_ _) | (refine Below.trans ?_ (Below.mono (by assumption) ?_)) | (with_reducible exact Nat.le_refl _) | (with_reducible assumption) | (exact Below.size (by assumption)) | omega | go_size | (simp at *; omega)))⟩
    · have hkn : k = n2 := by omega
      subst hkn
      by_cases hkN : k = N
      · have hperm : permOk N q = true := perm_of (by have := hlq.out; omega) (fun i x hi hx => he.out i x (by have := hlq.out; omega) hx)
        have HZ := hid (hYes.out hperm)
        clear he hYes hNo hbx hperm
        subst hkN
        go_wp2
        go_loopw [10, 45] (fun v i wr => ∃ k : Nat, k ≤ n ∧ i = .int .i64 k ∧ wr.ownsRow w.heap.size 2 1 v ((p.take k).map (nameAt q)).length (ints ((p.take k).map (nameAt q))) ∧ Below w.heap.size w wr) (fun _ i _ => n - (intOf i).toNat)
        case atStart => exact ⟨0, Nat.zero_le _, rfl, World.ownsRow_lit _ _ 0 (by omega) (by simp [maxLen]) rfl, (by repeat' (first | exact Below.refl _ _ | (with_reducible assumption) | (with_reducible refine Below.alloc ?_ ?_ _) | (with_reducible refine Below.setCell ?_ ?_ _) | (with_reducible refine Below.drew ?_) | (with_reducible refine below_drewN ?_ _) | (refine Below.trans ?_ (Below.mono (by assumption) ?_)) | (with_reducible exact Nat.le_refl _) | (with_reducible assumption) | (exact Below.size (by assumption)) | omega | go_size | (simp at *; omega)))⟩
        case round =>
          obtain ⟨j, hj, rfl, ho, hb0⟩ := hrel
          have hB := hb0.size
          have hol : ((p.take j).map (nameAt q)).length ≤ 12 := by rw [List.length_map, List.length_take]; omega
          by_cases hlt : j < n
          · obtain ⟨b, off, x, rfl, hb, hx, hd, hc⟩ := (hR.out.below hb0 (Nat.le_refl _)).at_ hlt
            obtain ⟨x0, x1⟩ := hPN.out x (List.mem_of_getElem? hx)
            obtain ⟨t, rfl⟩ : ∃ t : Nat, x = (t : Int) := ⟨x.toNat, by omega⟩
            obtain ⟨b2, off2, y, rfl, hb2, hy, hd2, hc2⟩ := (hR2.out.below hb0 (Nat.le_refl _)).at_ (i := t) (by omega)
            have HT : Hid ((p.take (j + 1)).map (nameAt q) = (p.take j).map (nameAt q) ++ [y]) := by
              show _ = _
              rw [List.take_add_one, hx]
              simp [nameAt, List.getD, hy]
            generalize (p.take j).map (nameAt q) = out at *
            clear hx hd hb hb2 hy hd2
            go_wp2_with (at_builtin; refine push_int ho (y) _ Try.underlying29 inf_int rfl rfl _ _ rfl rfl rfl (by omega) (by omega) ?_; intro v1 w1 ho1 hb1 hg1)
            go_roundw
            case rel => exact ⟨j + 1, by omega, by go_num, by rw [HT.out]; exact ho1, (by repeat' (first | exact Below.refl _ _ | (with_reducible assumption) | (with_reducible refine Below.alloc ?_ ?_ _) | (with_reducible refine Below.setCell ?_ ?_ _) | (with_reducible refine Below.drew ?_) | (with_reducible refine below_drewN ?_ _) | (refine Below.trans ?_ (Below.mono (by assumption) ?_)) | (with_reducible exact Nat.le_refl _) | (with_reducible assumption) | (exact Below.size (by assumption)) | omega | go_size | (simp at *; omega)))⟩
            case measure => simp [intOf]; omega
          · have hjn : j = n := by omega
            rw [List.take_of_length_le (by rw [hlp.out]; omega)] at ho
            clear hjn
            go_wp2
            go_ret2
            rw [HZ.out]
            exact ⟨_, rfl, ho, (by repeat' (first | exact Below.refl _ _ | (with_reducible assumption) | (with_reducible refine Below.alloc ?_ ?_ _) | (with_reducible refine Below.setCell ?_ ?_ _) | (with_reducible refine Below.drew ?_) | (with_reducible refine below_drewN ?_ _) | (refine Below.trans ?_ (Below.mono (by assumption) ?_)) | (with_reducible exact Nat.le_refl _) | (with_reducible assumption) | (exact Below.size (by assumption)) | omega | go_size | (simp at *; omega)))⟩
      · have HZ : Hid (rRenameHands p q = ([], 2)) := by
          refine hNo.out ?_
          cases hh : permOk N q with
          | false => rfl
          | true => exact absurd ((permOk_iff.1 hh).1) (by have := hlq.out; omega)
        have hq : ((k : Int) == (N : Int)) = false := by simp; omega
        clear he hYes hNo hbx
        go_wp2
        go_ret2
        rw [HZ.out]
        exact ⟨_, rfl, World.ownsRow_nil _ _ _ _, (by repeat' (first | exact Below.refl _ _ | (with_reducible assumption) | (with_reducible refine Below.alloc ?_ ?_ _) | (with_reducible refine Below.setCell ?_ ?_ _) | (with_reducible refine Below.drew ?_) | (with_reducible refine below_drewN ?_ _) | (refine Below.trans ?_ (Below.mono (by assumption) ?_)) | (with_reducible exact Nat.le_refl _) | (with_reducible assumption) | (exact Below.size (by assumption)) | omega | go_size | (simp at *; omega)))⟩
  · have k : hdOk p = false := by simpa using k
    rw [k] at hV
    have hV := hid hV
    have hs : Hid (rRenameHands p q = ([], 1)) := by show _ = _; simp [rRenameHands, k]
    clear k hr hlen hr2 hlen2
    go_enter Try.func20, Try.ntmps20
    go_wp2_with (go_at_call 59; refine hV.out.mono ?_; rintro e w1 ⟨rfl, hb1⟩; have hz1 := hb1.size)
    go_ret2
    rw [hs.out]
    exact ⟨_, rfl, World.ownsRow_nil _ _ _ _, (by repeat' (first | exact Below.refl _ _ | (with_reducible assumption) | (with_reducible refine Below.alloc ?_ ?_ _) | (with_reducible refine Below.setCell ?_ ?_ _) | (with_reducible refine Below.drew ?_) | (with_reducible refine below_drewN ?_ _) | (refine Below.trans ?_ (Below.mono (by assumption) ?_)) | (with_reducible exact Nat.le_refl _) | (with_reducible assumption) | (exact Below.size (by assumption)) | omega | go_size | (simp at *; omega)))⟩
set_option maxHeartbeats 2000000 in
theorem specRenameHands_any (A : Option Addr) (n c : Nat) (p : List Int) (A2 : Option Addr) (n2 c2 : Nat) (q : List Int) (w : World) (hn : n ≤ 1099511627776) (hr : Rd w w.heap.size 1 A n (ints p)) (hn2 : n2 ≤ 1099511627776) (hr2 : Rd w w.heap.size 1 A2 n2 (ints q)) :
    Calls Try.prog 18 #[.slice A n c, .slice A2 n2 c2] w fun e w' => ∃ v, e = .returned (.tuple #[v, .int .i64 (rRenameHands p q).2]) ∧ w'.ownsRow w.heap.size 2 1 v (rRenameHands p q).1.length (ints (rRenameHands p q).1) ∧ Below w.heap.size w w' := by
  have hV := l14Ok_any A n c p w hn hr
  have hlen := hr.len
  have hlen2 := hr2.len
  by_cases k : hdOk p = true
  · rw [k] at hV
    have hV := hid hV
    obtain ⟨hall, q2, q3⟩ := hdOk_all k
    obtain ⟨N, hN, hN1, hN4, hpN⟩ := hdCnt_nat k
    have hYes := hid (fun (e : permOk N q = true) => rn_ok (q := q) k hN e)
    have hNo := hid (fun (e : permOk N q = false) => rn_no (q := q) k hN e)
    have hC1 := l14Count_any A n c p w hn (by omega) hall hr
    rw [hN] at hC1
    have hC1 := hid hC1
    have hHas := hid (fun (h : Int) => l00Has_any A2 n2 c2 q h w hn2 hr2)
    have hR := hid hr
    have hR2 := hid hr2
    have hPN := hid hpN
    have hlp := hid hlen
    have hlq := hid hlen2
    have hn12 : n ≤ 12 := by omega
    have hpo : Hid (permOk N q = (decide ((n2 : Int) = (N : Int)) && (List.range N).all fun h => decide ((h : Int) ∈ q))) := by
      show _ = _
      rw [permOk, hlen2]
      congr 1
      by_cases e : n2 = N
      · simp [e]
      · have : ¬ (n2 : Int) = (N : Int) := by omega
        simp [e, this]
    clear hall hN q2 q3 k hr hr2 hlen hlen2 hpN
    obtain ⟨d, hd0⟩ : ∃ d, decide ((n2 : Int) = (N : Int)) = d := ⟨_, rfl⟩
    have hq : ((n2 : Int) == (N : Int)) = d := by rw [← hd0]; rfl
    have hd0 := hid hd0
    rw [hd0.out] at hpo
    go_enter Try.func18, Try.ntmps18
    go_wp2_with (first | (go_at_call 56; refine (hV.out).mono ?_; rintro e w' ⟨rfl, rfl⟩) | (go_at_call 57; refine (hC1.out).mono ?_; rintro e w' ⟨rfl, rfl⟩))
    go_loop [7, 8] (fun v i => ∃ (j : Nat) (g : Bool), j ≤ N ∧ i = .int .i64 j ∧ v = .bool g ∧ Hid (g = (d && (List.range j).all fun h => decide ((h : Int) ∈ q)))) (fun _ i => N - (intOf i).toNat)
    case atStart => exact ⟨0, d, Nat.zero_le _, rfl, by first | rfl | rw [hq] | simp [hq], by simp [Hid]⟩
    case round =>
    obtain ⟨j, g, hj, rfl, rfl, he⟩ := hrel
    by_cases hlj : j < N
    · have hst : Hid ((d && (List.range (j + 1)).all fun h => decide ((h : Int) ∈ q)) = (g && decide ((j : Int) ∈ q))) := by
        show _ = _
        rw [he.out, List.range_succ, List.all_append]
        simp [Bool.and_assoc]
      cases g with
      | false =>
        clear hpo
        go_wp2
        go_round
        case rel => exact ⟨j + 1, _, by omega, by go_num, rfl, by show _ = _; rw [hst.out]; rfl⟩
        case measure => simp [intOf]; omega
      | true =>
        have hm0 := hHas.out (j : Int)
        have hm0 := hid hm0
        have hst2 : Hid (decide ((j : Int) ∈ q) = (d && (List.range (j + 1)).all fun h => decide ((h : Int) ∈ q))) := by show _ = _; rw [hst.out]; rfl
        generalize decide ((j : Int) ∈ q) = g2 at *
        clear hpo hst
        go_wp2_with (go_at_call 58; refine (hm0.out).mono ?_; rintro e w' ⟨rfl, rfl⟩)
        go_round
        case rel => exact ⟨j + 1, _, by omega, by go_num, rfl, hst2⟩
        case measure => simp [intOf]; omega
    · have hjn : j = N := by omega
      have hG : g = permOk N q := by rw [he.out, hpo.out, hjn]
      clear hjn he hpo hj
      cases g with
      | false =>
        have HZ := hid (hNo.out hG.symm)
        clear hG hYes hNo
        go_wp2
        go_ret2
        rw [HZ.out]
        exact ⟨_, rfl, World.ownsRow_nil _ _ _ _, (by repeat' (first | exact Below.refl _ _ | (with_reducible assumption) | (with_reducible refine Below.alloc ?_ ?_ _) | (with_reducible refine Below.setCell ?_ ?_ _) | (with_reducible refine Below.drew ?_) | (with_reducible refine below_drewN ?_ _) | (refine Below.trans ?_ (Below.mono (by assumption) ?_)) | (with_reducible exact Nat.le_refl _) | (with_reducible assumption) | (exact Below.size (by assumption)) | omega | go_size | (simp at *; omega)))⟩
      | true =>
        have HZ := hid (hYes.out hG.symm)
        have hkN : n2 = N := by rw [← hlq.out]; exact (permOk_iff.1 hG.symm).1
        clear hG hYes hNo
        go_wp2
        go_loopw [9, 10] (fun v i wr => ∃ k : Nat, k ≤ n ∧ i = .int .i64 k ∧ wr.ownsRow w.heap.size 2 1 v ((p.take k).map (nameAt q)).length (ints ((p.take k).map (nameAt q))) ∧ Below w.heap.size w wr) (fun _ i _ => n - (intOf i).toNat)
        case atStart => exact ⟨0, Nat.zero_le _, rfl, World.ownsRow_lit _ _ 0 (by omega) (by simp [maxLen]) rfl, (by repeat' (first | exact Below.refl _ _ | (with_reducible assumption) | (with_reducible refine Below.alloc ?_ ?_ _) | (with_reducible refine Below.setCell ?_ ?_ _) | (with_reducible refine Below.drew ?_) | (with_reducible refine below_drewN ?_ _) | (refine Below.trans ?_ (Below.mono (by assumption) ?_)) | (with_reducible exact Nat.le_refl _) | (with_reducible assumption) | (exact Below.size (by assumption)) | omega | go_size | (simp at *; omega)))⟩
        case round =>
          obtain ⟨j, hj, rfl, ho, hb0⟩ := hrel
          have hB := hb0.size
          have hol : ((p.take j).map (nameAt q)).length ≤ 12 := by rw [List.length_map, List.length_take]; omega
          by_cases hlt : j < n
          · obtain ⟨b, off, x, rfl, hb, hx, hd, hc⟩ := (hR.out.below hb0 (Nat.le_refl _)).at_ hlt
            obtain ⟨x0, x1⟩ := hPN.out x (List.mem_of_getElem? hx)
            obtain ⟨t, rfl⟩ : ∃ t : Nat, x = (t : Int) := ⟨x.toNat, by omega⟩
            obtain ⟨b2, off2, y, rfl, hb2, hy, hd2, hc2⟩ := (hR2.out.below hb0 (Nat.le_refl _)).at_ (i := t) (by omega)
            have HT : Hid ((p.take (j + 1)).map (nameAt q) = (p.take j).map (nameAt q) ++ [y]) := by
              show _ = _
              rw [List.take_add_one, hx]
              simp [nameAt, List.getD, hy]
            generalize (p.take j).map (nameAt q) = out at *
            clear hx hd hb hb2 hy hd2
            go_wp2_with (at_builtin; refine push_int ho (y) _ Try.underlying29 inf_int rfl rfl _ _ rfl rfl rfl (by omega) (by omega) ?_; intro v1 w1 ho1 hb1 hg1)
            go_roundw
            case rel => exact ⟨j + 1, by omega, by go_num, by rw [HT.out]; exact ho1, (by repeat' (first | exact Below.refl _ _ | (with_reducible assumption) | (with_reducible refine Below.alloc ?_ ?_ _) | (with_reducible refine Below.setCell ?_ ?_ _) | (with_reducible refine Below.drew ?_) | (with_reducible refine below_drewN ?_ _) | (refine Below.trans ?_ (Below.mono (by assumption) ?_)) | (with_reducible exact Nat.le_refl _) | (with_reducible assumption) | (exact Below.size (by assumption)) | omega | go_size | (simp at *; omega)))⟩
            case measure => simp [intOf]; omega
          · have hjn : j = n := by omega
            rw [List.take_of_length_le (by rw [hlp.out]; omega)] at ho
            clear hjn
            go_wp2
            go_ret2
            rw [HZ.out]
            exact ⟨_, rfl, ho, (by repeat' (first | exact Below.refl _ _ | (with_reducible assumption) | (with_reducible refine Below.alloc ?_ ?_ _) | (with_reducible refine Below.setCell ?_ ?_ _) | (with_reducible refine Below.drew ?_) | (with_reducible refine below_drewN ?_ _) | (refine Below.trans ?_ (Below.mono (by assumption) ?_)) | (with_reducible exact Nat.le_refl _) | (with_reducible assumption) | (exact Below.size (by assumption)) | omega | go_size | (simp at *; omega)))⟩
  · have k : hdOk p = false := by simpa using k
    rw [k] at hV
    have hV := hid hV
    have hs : Hid (rRenameHands p q = ([], 1)) := by show _ = _; simp [rRenameHands, k]
    clear k hr hlen hr2 hlen2
    go_enter Try.func18, Try.ntmps18
    go_wp2_with (go_at_call 56; refine (hV.out).mono ?_; rintro e w' ⟨rfl, rfl⟩)
    go_ret2
    rw [hs.out]
    exact ⟨_, rfl, World.ownsRow_nil _ _ _ _, (by repeat' (first | exact Below.refl _ _ | (with_reducible assumption) | (with_reducible refine Below.alloc ?_ ?_ _) | (with_reducible refine Below.setCell ?_ ?_ _) | (with_reducible refine Below.drew ?_) | (with_reducible refine below_drewN ?_ _) | (refine Below.trans ?_ (Below.mono (by assumption) ?_)) | (with_reducible exact Nat.le_refl _) | (with_reducible assumption) | (exact Below.size (by assumption)) | omega | go_size | (simp at *; omega)))⟩
end Go.Proofs.Ythbbfhlpoinenaa
