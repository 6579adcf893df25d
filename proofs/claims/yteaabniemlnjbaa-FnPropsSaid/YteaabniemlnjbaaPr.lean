/- Contracts of the functions that number the props of a pattern, and the walks of their laws. -/
import Derived.Test.YteaabniemlnjbaaBt
namespace Go.Proofs.Yteaabniemlnjbaa
open Go.RowKit
set_option linter.unusedVariables false

/-- Which props are thrown: f beats more from b on, out so far, cnt props so far. -/
def prF (p : List Int) : Nat → Int → List Int → Int → List Int
  | 0, _, out, _ => out
  | f + 1, b, out, cnt =>
    if atB p b = 0 then prF p f (b + 1) (out ++ [-1]) cnt
    else if lf p b < 0 then prF p f (b + 1) (out ++ [cnt]) (cnt + 1)
    else prF p f (b + 1) (out ++ [out.getD (lf p b).toNat 0]) cnt
theorem prF_zero {p : List Int} {f : Nat} {b cnt : Int} {out : List Int} (h : atB p b = 0) : prF p (f + 1) b out cnt = prF p f (b + 1) (out ++ [-1]) cnt := by simp [prF, h]
theorem prF_new {p : List Int} {f : Nat} {b cnt : Int} {out : List Int} (h : atB p b ≠ 0) (h2 : lf p b < 0) : prF p (f + 1) b out cnt = prF p f (b + 1) (out ++ [cnt]) (cnt + 1) := by simp [prF, h, h2]
theorem prF_old {p : List Int} {f : Nat} {b cnt : Int} {out : List Int} (h : atB p b ≠ 0) (h2 : ¬ lf p b < 0) : prF p (f + 1) b out cnt = prF p f (b + 1) (out ++ [out.getD (lf p b).toNat 0]) cnt := by simp [prF, h, h2]
theorem prF_len (p : List Int) : ∀ f b out cnt, (prF p f b out cnt).length = out.length + f := by
  intro f
  induction f with
  | zero => intro b out cnt; rfl
  | succ f ih =>
    intro b out cnt
    simp only [prF]
    split
    · rw [ih]; simp; omega
    · split
      · rw [ih]; simp; omega
      · rw [ih]; simp; omega
/-- The props that are thrown at the beats below f. -/
def prs (p : List Int) (f : Nat) : List Int := prF p f 0 [] 0
theorem prs_len (p : List Int) (f : Nat) : (prs p f).length = f := by rw [prs, prF_len]; simp
set_option maxHeartbeats 800000 in
theorem propsAt_any (A : Option Addr) (n c : Nat) (p : List Int) (N : Nat) (w : World) (hN : N ≤ 100000) (hp : okP p = true) (hr : Rd w w.heap.size 1 A n (ints p)) :
    Calls Try.prog 81 #[.slice A n c, .int .i64 (N : Int)] w fun e w' => ∃ v, e = .returned v ∧ w'.ownsRow w.heap.size 2 1 v N (ints (prs p N)) ∧ Below w.heap.size w w' := by
  have hlen := hr.len
  have hth := thOk_iff (okP_th hp)
  have hn1 : 1 ≤ n := by omega
  have hn2 : n ≤ 12 := by omega
  have hst : Hid (prF p (N - 0) ((0 : Nat) : Int) [] 0 = prs p N) := rfl
  have hF := hid (fun (w1 : World) (b : Int) (b1 : -1000000000 ≤ b) (b2 : b ≤ 1000000000) (h : Rd w1 w1.heap.size 1 A n (ints p)) => landsFrom_any A n c p b w1 b1 b2 hp h)
  have hT := hid (fun (w1 : World) (b : Int) (h : Rd w1 w1.heap.size 1 A n (ints p)) => throwAt_any A n c p b w1 (by omega) hn1 h)
  have hself := hid (fun (b : Int) (h : lf p b = b) => lf_self hp b h)
  have hbd := hid (fun (b : Int) => lf_bd hp b)
  have hrr := hid hr
  clear hr hlen hth hp
  go_enter Try.func81, Try.ntmps81
  go_wp2
  go_loopw [5, 6, 11] (fun v x i wr => ∃ (k : Nat) (out : List Int) (ct : Int), k ≤ N ∧ i = .int .i64 k ∧ x = .int .i64 ct ∧ 0 ≤ ct ∧ ct ≤ (k : Int) ∧ out.length = k ∧ Hid (prF p (N - k) (k : Int) out ct = prs p N) ∧ wr.ownsRow w.heap.size 2 1 v out.length (ints out) ∧ Below w.heap.size w wr) (fun v x i _ => N - (intOf i).toNat)
  case atStart => exact ⟨0, [], 0, Nat.zero_le _, rfl, rfl, by omega, by omega, rfl, hst, World.ownsRow_lit _ _ 0 (Nat.le_refl _) (by simp [maxLen]) rfl, (by repeat' (first | exact Below.refl _ _ | (with_reducible assumption) | (with_reducible refine Below.alloc ?_ ?_ _) | (with_reducible refine Below.setCell ?_ ?_ _) | (with_reducible refine Below.drew ?_) | (with_reducible refine below_drewN ?_ _) | (refine Below.trans ?_ (Below.mono (by assumption) ?_)) | (with_reducible exact Nat.le_refl _) | (with_reducible assumption) | (exact Below.size (by assumption)) | omega | go_size | (simp at *; omega)))⟩
  case round =>
    obtain ⟨k, out, ct, hk, rfl, rfl, ct0, ct1, hok, he, ho, hb0⟩ := hrel
    clear hst
    have hB := hb0.size
    have HOK := hid hok
    have hok1 : out.length ≤ k := by omega
    have hok2 : k ≤ out.length := by omega
    clear hok
    by_cases hlt : k < N
    · have hkk : N - k = (N - (k + 1)) + 1 := by omega
      obtain ⟨l0, l1⟩ := hbd.out (k : Int)
      have he := he.out
      rw [hkk] at he
      by_cases h1 : atB p (k : Int) = 0
      · rw [prF_zero h1] at he
        have HZ := hid he
        have hq : (atB p (k : Int) == 0) = true := by simp [h1]
        have HL := hid (hbd.out (k : Int))
        clear he hkk h1
        go_wp2_with (first | (go_at_call 117; refine (hF.out wr (k : Int) (by omega) (by omega) ((hrr.out.below hb0 (Nat.le_refl _)).more hB)).mono ?_; rintro e w1 ⟨rfl, hb1⟩; have ho1 := own_below ho hb1; have hB1 := Nat.le_trans hB hb1.size) | (go_at_call 116; refine (hT.out w1 (k : Int) ((hrr.out.below (hb0.trans (hb1.mono hB)) (Nat.le_refl _)).more hB1)).mono ?_; rintro e w' ⟨rfl, rfl⟩) | (at_builtin; refine push_int ho1 (-1) _ Try.underlying22 inf_int rfl rfl _ _ rfl rfl rfl (by omega) hB1 ?_; intro v2 w2 ho2 hb2 hg2))
        go_roundw
        case rel => exact ⟨k + 1, out ++ [-1], ct, by omega, by go_num, rfl, by omega, by omega, by rw [List.length_append, HOK.out]; rfl, HZ, ho2, (by repeat' (first | exact Below.refl _ _ | (with_reducible assumption) | (with_reducible refine Below.alloc ?_ ?_ _) | (with_reducible refine Below.setCell ?_ ?_ _) | (with_reducible refine Below.drew ?_) | (with_reducible refine below_drewN ?_ _) | (refine Below.trans ?_ (Below.mono (by assumption) ?_)) | (with_reducible exact Nat.le_refl _) | (with_reducible assumption) | (exact Below.size (by assumption)) | omega | go_size | (simp at *; omega)))⟩
        case measure => simp [intOf]; omega
      · have hq : (atB p (k : Int) == 0) = false := by simpa using h1
        have hne : lf p (k : Int) ≠ (k : Int) := fun e => h1 (hself.out _ e)
        have hltk : lf p (k : Int) < (k : Int) := by omega
        by_cases h2 : lf p (k : Int) < 0
        · rw [prF_new h1 h2] at he
          have HZ := hid he
          clear he hkk h1 hne
          go_wp2_with (first | (go_at_call 117; refine (hF.out wr (k : Int) (by omega) (by omega) ((hrr.out.below hb0 (Nat.le_refl _)).more hB)).mono ?_; rintro e w1 ⟨rfl, hb1⟩; have ho1 := own_below ho hb1; have hB1 := Nat.le_trans hB hb1.size) | (go_at_call 116; refine (hT.out w1 (k : Int) ((hrr.out.below (hb0.trans (hb1.mono hB)) (Nat.le_refl _)).more hB1)).mono ?_; rintro e w' ⟨rfl, rfl⟩) | (at_builtin; refine push_int ho1 (ct) _ Try.underlying22 inf_int rfl rfl _ _ rfl rfl rfl (by omega) hB1 ?_; intro v2 w2 ho2 hb2 hg2))
          go_roundw
          case rel => exact ⟨k + 1, out ++ [ct], ct + 1, by omega, by go_num, rfl, by omega, by omega, by rw [List.length_append, HOK.out]; rfl, HZ, ho2, (by repeat' (first | exact Below.refl _ _ | (with_reducible assumption) | (with_reducible refine Below.alloc ?_ ?_ _) | (with_reducible refine Below.setCell ?_ ?_ _) | (with_reducible refine Below.drew ?_) | (with_reducible refine below_drewN ?_ _) | (refine Below.trans ?_ (Below.mono (by assumption) ?_)) | (with_reducible exact Nat.le_refl _) | (with_reducible assumption) | (exact Below.size (by assumption)) | omega | go_size | (simp at *; omega)))⟩
          case measure => simp [intOf]; omega
        · rw [prF_old h1 h2] at he
          obtain ⟨j, hj⟩ := Int.eq_ofNat_of_zero_le (show 0 ≤ lf p (k : Int) by omega)
          have hF2 := hF.out
          have hjk : j < k := by omega
          rw [hj, Int.toNat_natCast] at he
          obtain ⟨A1, c1, rfl⟩ := own_form ho
          obtain ⟨bk, off, y, rfl, hbk, hy, _, hcy⟩ := (Rd.of_own ho).at_ (show j < out.length by omega)
          have hgy : out.getD j 0 = y := by rw [List.getD_eq_getElem?_getD, hy]; rfl
          rw [hgy] at he
          have HZ := hid he
          have hF3 := hF2 wr (k : Int) (by omega) (by omega) ((hrr.out.below hb0 (Nat.le_refl _)).more hB)
          rw [hj] at hF3
          have hF3 := hid hF3
          have hol : out.length ≤ 100000 := by omega
          have hjo : j < out.length := by omega
          have h2' : ¬ (j : Int) < 0 := by omega
          clear he hkk h1 hne hj hy hgy hF2 h2 l0 l1 hltk
          go_wp2_with (first | (go_at_call 117; refine hF3.out.mono ?_; rintro e w1 ⟨rfl, hb1⟩; have ho1 := own_below ho hb1; have hB1 := Nat.le_trans hB hb1.size; have hcy1 : w1.cell? ⟨bk, off + j, none⟩ = some (.int .i64 y) := (hb1.cell (p := ⟨bk, off + j, none⟩) hbk).trans hcy) | (go_at_call 116; refine (hT.out w1 (k : Int) ((hrr.out.below (hb0.trans (hb1.mono hB)) (Nat.le_refl _)).more hB1)).mono ?_; rintro e w' ⟨rfl, rfl⟩) | (at_builtin; refine push_int ho1 (y) _ Try.underlying22 inf_int rfl rfl _ _ rfl rfl rfl (by omega) hB1 ?_; intro v2 w2 ho2 hb2 hg2))
          go_roundw
          case rel => exact ⟨k + 1, out ++ [y], ct, by omega, by go_num, rfl, by omega, by omega, by rw [List.length_append, HOK.out]; rfl, HZ, ho2, (by repeat' (first | exact Below.refl _ _ | (with_reducible assumption) | (with_reducible refine Below.alloc ?_ ?_ _) | (with_reducible refine Below.setCell ?_ ?_ _) | (with_reducible refine Below.drew ?_) | (with_reducible refine below_drewN ?_ _) | (refine Below.trans ?_ (Below.mono (by assumption) ?_)) | (with_reducible exact Nat.le_refl _) | (with_reducible assumption) | (exact Below.size (by assumption)) | omega | go_size | (simp at *; omega)))⟩
          case measure => simp [intOf]; omega
    · have hkN : k = N := by omega
      subst hkN
      have he := he.out
      rw [Nat.sub_self, prF] at he
      go_wp2
      go_ret
      rw [← he]
      rw [HOK.out] at ho
      exact ⟨_, rfl, ho, hb0⟩
set_option maxHeartbeats 800000 in
theorem l13Order_any (A : Option Addr) (n c : Nat) (p : List Int) (N : Nat) (w : World) (hN : N ≤ 100000) (hp : okP p = true) (hr : Rd w w.heap.size 1 A n (ints p)) :
    Calls Try.prog 78 #[.slice A n c, .int .i64 (N : Int)] w fun e w' => ∃ v, e = .returned v ∧ w'.ownsRow w.heap.size 2 1 v N (ints (prs p N)) ∧ Below w.heap.size w w' := by
  have hlen := hr.len
  have hth := thOk_iff (okP_th hp)
  have hn1 : 1 ≤ n := by omega
  have hn2 : n ≤ 12 := by omega
  have hst : Hid (prF p (N - 0) ((0 : Nat) : Int) [] 0 = prs p N) := rfl
  have hF := hid (fun (w1 : World) (b : Int) (b1 : -1000000000 ≤ b) (b2 : b ≤ 1000000000) (h : Rd w1 w1.heap.size 1 A n (ints p)) => l02From_any A n c p b w1 b1 b2 hp h)
  have hT := hid (fun (w1 : World) (b : Int) (h : Rd w1 w1.heap.size 1 A n (ints p)) => l02At_any A n c p b w1 (by omega) hn1 h)
  have hself := hid (fun (b : Int) (h : lf p b = b) => lf_self hp b h)
  have hbd := hid (fun (b : Int) => lf_bd hp b)
  have hrr := hid hr
  clear hr hlen hth hp
  go_enter Try.func78, Try.ntmps78
  go_wp2
  go_loopw [5, 6, 7] (fun v x i wr => ∃ (k : Nat) (out : List Int) (ct : Int), k ≤ N ∧ i = .int .i64 k ∧ x = .int .i64 ct ∧ 0 ≤ ct ∧ ct ≤ (k : Int) ∧ out.length = k ∧ Hid (prF p (N - k) (k : Int) out ct = prs p N) ∧ wr.ownsRow w.heap.size 2 1 v out.length (ints out) ∧ Below w.heap.size w wr) (fun v x i _ => N - (intOf i).toNat)
  case atStart => exact ⟨0, [], 0, Nat.zero_le _, rfl, rfl, by omega, by omega, rfl, hst, World.ownsRow_lit _ _ 0 (Nat.le_refl _) (by simp [maxLen]) rfl, (by repeat' (first | exact Below.refl _ _ | (with_reducible assumption) | (with_reducible refine Below.alloc ?_ ?_ _) | (with_reducible refine Below.setCell ?_ ?_ _) | (with_reducible refine Below.drew ?_) | (with_reducible refine below_drewN ?_ _) | (refine Below.trans ?_ (Below.mono (by assumption) ?_)) | (with_reducible exact Nat.le_refl _) | (with_reducible assumption) | (exact Below.size (by assumption)) | omega | go_size | (simp at *; omega)))⟩
  case round =>
    obtain ⟨k, out, ct, hk, rfl, rfl, ct0, ct1, hok, he, ho, hb0⟩ := hrel
    clear hst
    have hB := hb0.size
    have HOK := hid hok
    have hok1 : out.length ≤ k := by omega
    have hok2 : k ≤ out.length := by omega
    clear hok
    by_cases hlt : k < N
    · have hkk : N - k = (N - (k + 1)) + 1 := by omega
      obtain ⟨l0, l1⟩ := hbd.out (k : Int)
      have he := he.out
      rw [hkk] at he
      by_cases h1 : atB p (k : Int) = 0
      · rw [prF_zero h1] at he
        have HZ := hid he
        have hq : (atB p (k : Int) == 0) = true := by simp [h1]
        have HL := hid (hbd.out (k : Int))
        clear he hkk h1
        go_wp2_with (first | (go_at_call 110; refine (hT.out wr (k : Int) ((hrr.out.below (hb0) (Nat.le_refl _)).more hB)).mono ?_; rintro e w' ⟨rfl, rfl⟩) | (at_builtin; refine push_int ho (-1) _ Try.underlying22 inf_int rfl rfl _ _ rfl rfl rfl (by omega) hB ?_; intro v2 w2 ho2 hb2 hg2))
        go_roundw
        case rel => exact ⟨k + 1, out ++ [-1], ct, by omega, by go_num, rfl, by omega, by omega, by rw [List.length_append, HOK.out]; rfl, HZ, ho2, (by repeat' (first | exact Below.refl _ _ | (with_reducible assumption) | (with_reducible refine Below.alloc ?_ ?_ _) | (with_reducible refine Below.setCell ?_ ?_ _) | (with_reducible refine Below.drew ?_) | (with_reducible refine below_drewN ?_ _) | (refine Below.trans ?_ (Below.mono (by assumption) ?_)) | (with_reducible exact Nat.le_refl _) | (with_reducible assumption) | (exact Below.size (by assumption)) | omega | go_size | (simp at *; omega)))⟩
        case measure => simp [intOf]; omega
      · have hq : (atB p (k : Int) == 0) = false := by simpa using h1
        have hne : lf p (k : Int) ≠ (k : Int) := fun e => h1 (hself.out _ e)
        have hltk : lf p (k : Int) < (k : Int) := by omega
        by_cases h2 : lf p (k : Int) < 0
        · rw [prF_new h1 h2] at he
          have HZ := hid he
          clear he hkk h1 hne
          go_wp2_with (first | (go_at_call 110; refine (hT.out wr (k : Int) ((hrr.out.below (hb0) (Nat.le_refl _)).more hB)).mono ?_; rintro e w' ⟨rfl, rfl⟩) | (go_at_call 127; refine (hF.out wr (k : Int) (by omega) (by omega) ((hrr.out.below hb0 (Nat.le_refl _)).more hB)).mono ?_; rintro e w1 ⟨rfl, hb1⟩; have ho1 := own_below ho hb1; have hB1 := Nat.le_trans hB hb1.size) | (at_builtin; refine push_int ho1 (ct) _ Try.underlying22 inf_int rfl rfl _ _ rfl rfl rfl (by omega) hB1 ?_; intro v2 w2 ho2 hb2 hg2))
          go_roundw
          case rel => exact ⟨k + 1, out ++ [ct], ct + 1, by omega, by go_num, rfl, by omega, by omega, by rw [List.length_append, HOK.out]; rfl, HZ, ho2, (by repeat' (first | exact Below.refl _ _ | (with_reducible assumption) | (with_reducible refine Below.alloc ?_ ?_ _) | (with_reducible refine Below.setCell ?_ ?_ _) | (with_reducible refine Below.drew ?_) | (with_reducible refine below_drewN ?_ _) | (refine Below.trans ?_ (Below.mono (by assumption) ?_)) | (with_reducible exact Nat.le_refl _) | (with_reducible assumption) | (exact Below.size (by assumption)) | omega | go_size | (simp at *; omega)))⟩
          case measure => simp [intOf]; omega
        · rw [prF_old h1 h2] at he
          obtain ⟨j, hj⟩ := Int.eq_ofNat_of_zero_le (show 0 ≤ lf p (k : Int) by omega)
          have hF2 := hF.out
          have hjk : j < k := by omega
          rw [hj, Int.toNat_natCast] at he
          obtain ⟨A1, c1, rfl⟩ := own_form ho
          obtain ⟨bk, off, y, rfl, hbk, hy, _, hcy⟩ := (Rd.of_own ho).at_ (show j < out.length by omega)
          have hgy : out.getD j 0 = y := by rw [List.getD_eq_getElem?_getD, hy]; rfl
          rw [hgy] at he
          have HZ := hid he
          have hF3 := hF2 wr (k : Int) (by omega) (by omega) ((hrr.out.below hb0 (Nat.le_refl _)).more hB)
          rw [hj] at hF3
          have hF3 := hid hF3
          have hol : out.length ≤ 100000 := by omega
          have hjo : j < out.length := by omega
          have h2' : ¬ (j : Int) < 0 := by omega
          clear he hkk h1 hne hj hy hgy hF2 h2 l0 l1 hltk
          go_wp2_with (first | (go_at_call 110; refine (hT.out wr (k : Int) ((hrr.out.below (hb0) (Nat.le_refl _)).more hB)).mono ?_; rintro e w' ⟨rfl, rfl⟩) | (go_at_call 127; refine hF3.out.mono ?_; rintro e w1 ⟨rfl, hb1⟩; have ho1 := own_below ho hb1; have hB1 := Nat.le_trans hB hb1.size; have hcy1 : w1.cell? ⟨bk, off + j, none⟩ = some (.int .i64 y) := (hb1.cell (p := ⟨bk, off + j, none⟩) hbk).trans hcy) | (at_builtin; refine push_int ho1 (y) _ Try.underlying22 inf_int rfl rfl _ _ rfl rfl rfl (by omega) hB1 ?_; intro v2 w2 ho2 hb2 hg2))
          go_roundw
          case rel => exact ⟨k + 1, out ++ [y], ct, by omega, by go_num, rfl, by omega, by omega, by rw [List.length_append, HOK.out]; rfl, HZ, ho2, (by repeat' (first | exact Below.refl _ _ | (with_reducible assumption) | (with_reducible refine Below.alloc ?_ ?_ _) | (with_reducible refine Below.setCell ?_ ?_ _) | (with_reducible refine Below.drew ?_) | (with_reducible refine below_drewN ?_ _) | (refine Below.trans ?_ (Below.mono (by assumption) ?_)) | (with_reducible exact Nat.le_refl _) | (with_reducible assumption) | (exact Below.size (by assumption)) | omega | go_size | (simp at *; omega)))⟩
          case measure => simp [intOf]; omega
    · have hkN : k = N := by omega
      subst hkN
      have he := he.out
      rw [Nat.sub_self, prF] at he
      go_wp2
      go_ret
      rw [← he]
      rw [HOK.out] at ho
      exact ⟨_, rfl, ho, hb0⟩
def rPropAt (p : List Int) (b : Int) : Int × Int := if okP p then (if betweenB b 0 199 then ((prs p (b + 1).toNat).getD b.toNat 0, 0) else (0, 2)) else (0, 1)
theorem PropAt_any (A : Option Addr) (n c : Nat) (p : List Int) (b : Int) (w : World) (hn : n ≤ 1099511627776) (hr : Rd w w.heap.size 1 A n (ints p)) :
    Calls Try.prog 53 #[.slice A n c, .int .i64 b] w fun e w' => e = .returned (.tuple #[.int .i64 (rPropAt p b).1, .int .i64 (rPropAt p b).2]) ∧ Below w.heap.size w w' := by
  have hV := ValidPattern_any A n c p w hn hr
  by_cases k : okP p = true
  · rw [k] at hV
    have hV := hid hV
    by_cases k2 : betweenB b 0 199 = true
    · obtain ⟨b0, b1⟩ := (betweenB_iff _ _ _).1 k2
      obtain ⟨j, rfl⟩ := Int.eq_ofNat_of_zero_le b0
      have hs : rPropAt p (j : Int) = ((prs p (j + 1)).getD j 0, 0) := by
        have e : ((j : Int) + 1).toNat = j + 1 := by omega
        simp [rPropAt, k, k2, e]
      have hlp := prs_len p (j + 1)
      have hS := fun (w1 : World) (h : Rd w1 w1.heap.size 1 A n (ints p)) => propsAt_any A n c p (j + 1) w1 (by omega) k h
      rw [hs]
      clear hs
      generalize prs p (j + 1) = L at *
      obtain ⟨x, hx⟩ : ∃ x, L[j]? = some x := ⟨_, List.getElem?_eq_getElem (by omega)⟩
      have hgd : L.getD j 0 = x := by rw [List.getD_eq_getElem?_getD, hx]; rfl
      rw [hgd]
      have HX := hid hx
      have HS := hid hS
      have HR := hid hr
      clear hx hgd hS hr hlp k
      go_enter Try.func53, Try.ntmps53
      go_wp2_with (first | (go_at_call 64; refine (hV.out).mono ?_; rintro e w1 ⟨rfl, hb1⟩; first | (have hk1 := bchain (by assumption) hb1; obtain ⟨hc1, hf1, hz1, hl1⟩ := bcell hk1) | (obtain ⟨hc1, hf1, hz1, hl1⟩ := bcell hb1)) | (go_at_call 79; refine (between_any _ _ _ _).mono ?_; rintro e w' ⟨rfl, rfl⟩) | (go_at_call 81; refine (HS.out _ ((HR.out.below hb1 (Nat.le_refl _)).more hb1.size)).mono ?_; rintro e w2 ⟨v2, rfl, ho2, hb2⟩; obtain ⟨A2, c2, rfl⟩ := own_form ho2; obtain ⟨bk, off, y, rfl, _, hy, _, hcy⟩ := (Rd.of_own ho2).at_ (show j < j + 1 by omega); obtain rfl : x = y := by have := HX.out; rw [hy] at this; exact (Option.some.inj this).symm))
      go_ret2
      exact ⟨rfl, (by repeat' (first | exact Below.refl _ _ | (with_reducible assumption) | (with_reducible refine Below.alloc ?_ ?_ _) | (with_reducible refine Below.setCell ?_ ?_ _) | (with_reducible refine Below.drew ?_) | (with_reducible refine below_drewN ?_ _) | (refine Below.trans ?_ (Below.mono (by assumption) ?_)) | (with_reducible exact Nat.le_refl _) | (with_reducible assumption) | (exact Below.size (by assumption)) | omega | go_size | (simp at *; omega)))⟩
    · have k2 : betweenB b 0 199 = false := by simpa using k2
      have hs : Hid (rPropAt p b = (0, 2)) := by show _ = _; simp [rPropAt, k, k2]
      clear k hr
      go_enter Try.func53, Try.ntmps53
      go_wp2_with (first | (go_at_call 64; refine (hV.out).mono ?_; rintro e w1 ⟨rfl, hb1⟩; first | (have hk1 := bchain (by assumption) hb1; obtain ⟨hc1, hf1, hz1, hl1⟩ := bcell hk1) | (obtain ⟨hc1, hf1, hz1, hl1⟩ := bcell hb1)) | (go_at_call 79; refine (between_any _ _ _ _).mono ?_; rintro e w' ⟨rfl, rfl⟩))
      go_ret2
      exact ⟨by rw [hs.out]; rfl, (by repeat' (first | exact Below.refl _ _ | (with_reducible assumption) | (with_reducible refine Below.alloc ?_ ?_ _) | (with_reducible refine Below.setCell ?_ ?_ _) | (with_reducible refine Below.drew ?_) | (with_reducible refine below_drewN ?_ _) | (refine Below.trans ?_ (Below.mono (by assumption) ?_)) | (with_reducible exact Nat.le_refl _) | (with_reducible assumption) | (exact Below.size (by assumption)) | omega | go_size | (simp at *; omega)))⟩
  · have k : okP p = false := by simpa using k
    rw [k] at hV
    have hV := hid hV
    have hs : Hid (rPropAt p b = (0, 1)) := by show _ = _; simp [rPropAt, k]
    clear k hr
    go_enter Try.func53, Try.ntmps53
    go_wp2_with (first | (go_at_call 64; refine (hV.out).mono ?_; rintro e w1 ⟨rfl, hb1⟩; first | (have hk1 := bchain (by assumption) hb1; obtain ⟨hc1, hf1, hz1, hl1⟩ := bcell hk1) | (obtain ⟨hc1, hf1, hz1, hl1⟩ := bcell hb1)))
    go_ret2
    exact ⟨by rw [hs.out]; rfl, (by repeat' (first | exact Below.refl _ _ | (with_reducible assumption) | (with_reducible refine Below.alloc ?_ ?_ _) | (with_reducible refine Below.setCell ?_ ?_ _) | (with_reducible refine Below.drew ?_) | (with_reducible refine below_drewN ?_ _) | (refine Below.trans ?_ (Below.mono (by assumption) ?_)) | (with_reducible exact Nat.le_refl _) | (with_reducible assumption) | (exact Below.size (by assumption)) | omega | go_size | (simp at *; omega)))⟩
end Go.Proofs.Yteaabniemlnjbaa
