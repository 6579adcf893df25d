/- Contracts of the functions that list the states. -/
import Derived.Test.YthbbfhlpoinenaaE
namespace Go.Proofs.Ythbbfhlpoinenaa
open Go.RowKit
set_option linter.unusedVariables false

/-- The masks from m on, f numbers are looked at, of which p of the lowest h bits are set. -/
def mskL (p : Int) (h : Nat) : Nat → Int → List Int
  | 0, _ => []
  | f + 1, m => if popc h m = p then m :: mskL p h f (m + 1) else mskL p h f (m + 1)
theorem mskL_yes {p : Int} {h f : Nat} {m : Int} (k : popc h m = p) : mskL p h (f + 1) m = m :: mskL p h f (m + 1) := by simp [mskL, k]
theorem mskL_not {p : Int} {h f : Nat} {m : Int} (k : popc h m ≠ p) : mskL p h (f + 1) m = mskL p h f (m + 1) := by simp [mskL, k]
theorem mskL_len (p : Int) (h : Nat) : ∀ f m, (mskL p h f m).length ≤ f := by
  intro f
  induction f with
  | zero => intro m; simp [mskL]
  | succ f ih => intro m; have := ih (m + 1); simp only [mskL]; split <;> simp <;> omega
theorem mskL_mem (p : Int) (h : Nat) : ∀ (f : Nat) m x, x ∈ mskL p h f m → m ≤ x ∧ x < m + (f : Int) ∧ popc h x = p := by
  intro f
  induction f with
  | zero => intro m x k; simp [mskL] at k
  | succ f ih =>
    intro m x k
    simp only [mskL] at k
    split at k
    · rename_i e
      rcases List.mem_cons.1 k with rfl | k
      · exact ⟨by omega, by omega, e⟩
      · have := ih _ _ k; exact ⟨by omega, by omega, this.2.2⟩
    · have := ih _ _ k; exact ⟨by omega, by omega, this.2.2⟩
theorem mskL_all (p : Int) (h : Nat) : ∀ (f : Nat) m x, m ≤ x → x < m + (f : Int) → popc h x = p → x ∈ mskL p h f m := by
  intro f
  induction f with
  | zero => intro m x a b; omega
  | succ f ih =>
    intro m x a b c
    simp only [mskL]
    split
    · rcases Int.lt_or_eq_of_le a with a | rfl
      · exact List.mem_cons_of_mem _ (ih _ _ (by omega) (by omega) c)
      · exact List.mem_cons_self
    · rcases Int.lt_or_eq_of_le a with a | rfl
      · exact ih _ _ (by omega) (by omega) c
      · rename_i e; exact absurd c e
theorem mskL_rises (p : Int) (h : Nat) : ∀ f m, (mskL p h f m).Pairwise (· < ·) := by
  intro f
  induction f with
  | zero => intro m; simp [mskL]
  | succ f ih =>
    intro m
    simp only [mskL]
    split
    · exact List.pairwise_cons.2 ⟨fun x hx => by have := mskL_mem p h f (m + 1) x hx; omega, ih _⟩
    · exact ih _
/-- The masks of all states with p props and the height h. -/
def msks (p h : Int) : List Int := mskL p h.toNat (2 ^ h.toNat) 0
theorem pow_le10 {h : Int} (h1 : 1 ≤ h) (h2 : h ≤ 10) : (2 : Nat) ^ h.toNat ≤ 1024 := by
  have : (2 : Nat) ^ h.toNat ≤ 2 ^ 10 := Nat.pow_le_pow_right (by omega) (by omega)
  omega
theorem msks_len {p h : Int} (h1 : 1 ≤ h) (h2 : h ≤ 10) : (msks p h).length ≤ 1024 := Nat.le_trans (mskL_len _ _ _ _) (pow_le10 h1 h2)

theorem l09Masks_any (p h : Int) (w : World) (h1 : 1 ≤ h) (h2 : h ≤ 10) :
    Calls Try.prog 50 #[.int .i64 p, .int .i64 h] w fun e w' => ∃ v, e = .returned v ∧ w'.ownsRow w.heap.size 2 1 v (msks p h).length (ints (msks p h)) ∧ Below w.heap.size w w' := by
  have hlen := msks_len (p := p) h1 h2
  obtain ⟨p1, p2, p3⟩ := pow_wrap h (by omega) (by omega)
  obtain ⟨N, hN⟩ : ∃ N : Nat, (2 : Int) ^ h.toNat = (N : Int) := ⟨2 ^ h.toNat, by simp⟩
  have hN2 : N ≤ 1024 := by have := pow_le10 h1 h2; have e : ((2 ^ h.toNat : Nat) : Int) = (N : Int) := by rw [← hN]; simp
                            omega
  have hst : Hid (([] : List Int) ++ mskL p h.toNat N 0 = msks p h) := by
    show _ = _
    have e : N = 2 ^ h.toNat := by have : ((2 ^ h.toNat : Nat) : Int) = (N : Int) := by rw [← hN]; simp
                                   omega
    rw [e]; rfl
  have hNH := hid hN
  generalize msks p h = R at *
  rw [hN] at p1 p2 p3
  have hX : ∀ x : Int, x < (N : Int) → x < 2 ^ h.toNat := fun x k => by rw [hN]; exact k
  have HX := hid hX
  clear hX p2 p3
  go_enter Try.func50, Try.ntmps50
  go_wp2
  go_loopw [5, 6] (fun v m wr => ∃ (out : List Int) (z : Int) (f : Nat), m = .int .i64 z ∧ 0 ≤ z ∧ z + (f : Int) = N ∧ Hid (out ++ mskL p h.toNat f z = R) ∧ wr.ownsRow w.heap.size 2 1 v out.length (ints out) ∧ Below w.heap.size w wr) (fun _ m _ => (1025 - intOf m).toNat)
  case atStart => exact ⟨[], 0, N, rfl, by omega, by omega, hst, World.ownsRow_lit _ _ 0 (Nat.le_refl _) (by simp [maxLen]) rfl, (by repeat' (first | exact Below.refl _ _ | (with_reducible assumption) | (with_reducible refine Below.alloc ?_ ?_ _) | (with_reducible refine Below.setCell ?_ ?_ _) | (with_reducible refine Below.drew ?_) | (with_reducible refine below_drewN ?_ _) | (refine Below.trans ?_ (Below.mono (by assumption) ?_)) | (with_reducible exact Nat.le_refl _) | (with_reducible assumption) | (exact Below.size (by assumption)) | omega | go_size | (simp at *; omega)))⟩
  case round =>
    obtain ⟨out, z, f, rfl, hz, hf, he, ho, hb0⟩ := hrel
    have hB := hb0.size
    by_cases c1 : z < (N : Int)
    · obtain ⟨g, rfl⟩ : ∃ g, f = g + 1 := ⟨f - 1, by omega⟩
      have hol : out.length ≤ 1024 := by have := he.out; have h3 := congrArg List.length this; simp at h3; omega
      have hzl := HX.out z c1
      by_cases c2 : popc h.toNat z = p
      · have k2 : (popc h.toNat z == p) = true := by simp [c2]
        have HZ : Hid ((out ++ [z]) ++ mskL p h.toNat g (z + 1) = R) := by show _ = _; rw [← he.out, mskL_yes c2]; simp
        have HZL := hid hzl
        clear c2 he hzl
        go_wp2_with (first | (go_at_call 51; refine (l08Count_any _ h.toNat _ hz (by omega) HZL.out).mono ?_; rintro e w' ⟨rfl, rfl⟩) | (at_builtin; refine push_int ho (z) _ Try.underlying29 inf_int rfl rfl _ _ rfl rfl rfl (by omega) (by omega) ?_; intro v1 w1 ho1 hb1 hg1))
        go_roundw
        case rel => exact ⟨out ++ [z], z + 1, g, rfl, by omega, by omega, HZ, ho1, hb0.trans hb1⟩
        case measure => simp [intOf]; omega
      · have k2 : (popc h.toNat z == p) = false := by simp [c2]
        have HZ : Hid (out ++ mskL p h.toNat g (z + 1) = R) := by show _ = _; rw [← he.out, mskL_not c2]
        have HZL := hid hzl
        clear c2 he hzl
        go_wp2_with (go_at_call 51; refine (l08Count_any _ h.toNat _ hz (by omega) HZL.out).mono ?_; rintro e w' ⟨rfl, rfl⟩)
        go_roundw
        case rel => exact ⟨out, z + 1, g, rfl, by omega, by omega, HZ, ho, hb0⟩
        case measure => simp [intOf]; omega
    · go_wp2
      go_ret
      have h0 : f = 0 := by omega
      subst h0
      have := he.out
      rw [mskL, List.append_nil] at this
      subst this
      exact ⟨_, rfl, ho, hb0⟩

/-- States of one height as cells. -/
def sts (h : Int) (xs : List Int) : List Value := xs.flatMap fun m => [.int .i64 h, .int .i64 m]
theorem sts_len (h : Int) (xs : List Int) : (sts h xs).length = xs.length * 2 := by
  induction xs with
  | nil => rfl
  | cons x xs ih =>
    have e : sts h (x :: xs) = [.int .i64 h, .int .i64 x] ++ sts h xs := by simp [sts]
    rw [e, List.length_append, ih, List.length_cons]; simp; omega
theorem sts_snoc (h : Int) (xs : List Int) (y : Int) : sts h xs ++ [.int .i64 h, .int .i64 y] = sts h (xs ++ [y]) := by simp [sts]
theorem inf_state : (Try.prog.info? 26).map (fun i => (i.zero, i.size, i.bytes)) = some (some (.agg #[.int .i64 0, .int .i64 0]), 2, 16) := by kernel_rfl
theorem push_st {w : World} {ops : Array Oper} {rest : List Oper} {o : Oper} {a : Act} {Q : Exit → Act → World → Prop}
    {base : Nat} {v : Value} {xs : List Int} {h : Int} (hown : w.ownsRow base 26 2 v xs.length (sts h xs)) (y : Int) (e2 : TypeId)
    (hgd : o.guard = none) (s x : Operand) (ho : o.op = .call { callee := .builtin .append, args := #[s, x], argTypes := #[57, 57] }) (hs : a.eval s = v) (hx : a.eval x = .slice (some ⟨w.heap.size, 0, none⟩) 1 1)
    (hn : xs.length ≤ 1099511627776) (hbase : base ≤ w.heap.size)
    (hk : ∀ v' w', w'.ownsRow base 26 2 v' (xs ++ [y]).length (sts h (xs ++ [y])) → Below base w w' → w.grownBy w' v.ownBlock → wpList Try.prog ops Q rest (a.put o.dst v') w') :
    wpList Try.prog ops Q (o :: rest) a (w.alloc (.cells #[.int .i64 h, .int .i64 y] e2)) := by
  refine push_own hown #[.int .i64 h, .int .i64 y] e2 Try.underlying57 inf_state rfl (by omega) hgd s x ho hs hx rfl ?_ hn (by omega) hbase fun v' w' h1 h2 h3 => hk v' w' ?_ h2 h3
  · intro u hu; simp at hu; rcases hu with rfl | rfl <;> rfl
  · rw [← sts_snoc, List.length_append]; simpa using h1

theorem allStates_any (p h : Int) (w : World) (h1 : 1 ≤ h) (h2 : h ≤ 10) :
    Calls Try.prog 54 #[.int .i64 p, .int .i64 h] w fun e w' => ∃ v, e = .returned v ∧ w'.ownsRow w.heap.size 26 2 v (msks p h).length (sts h (msks p h)) ∧ Below w.heap.size w w' := by
  have hlen := msks_len (p := p) h1 h2
  obtain ⟨p1, p2, p3⟩ := pow_wrap h (by omega) (by omega)
  obtain ⟨N, hN⟩ : ∃ N : Nat, (2 : Int) ^ h.toNat = (N : Int) := ⟨2 ^ h.toNat, by simp⟩
  have hN2 : N ≤ 1024 := by have := pow_le10 h1 h2; have e : ((2 ^ h.toNat : Nat) : Int) = (N : Int) := by rw [← hN]; simp
                            omega
  have hst : Hid (([] : List Int) ++ mskL p h.toNat N 0 = msks p h) := by
    show _ = _
    have e : N = 2 ^ h.toNat := by have : ((2 ^ h.toNat : Nat) : Int) = (N : Int) := by rw [← hN]; simp
                                   omega
    rw [e]; rfl
  generalize msks p h = R at *
  rw [hN] at p1 p2 p3
  clear p2 p3
  go_enter Try.func54, Try.ntmps54
  go_wp2
  go_loopw [5, 12] (fun v m wr => ∃ (out : List Int) (z : Int) (f : Nat), m = .int .i64 z ∧ 0 ≤ z ∧ z + (f : Int) = N ∧ Hid (out ++ mskL p h.toNat f z = R) ∧ wr.ownsRow w.heap.size 26 2 v out.length (sts h out) ∧ Below w.heap.size w wr) (fun _ m _ => (1025 - intOf m).toNat)
  case atStart => exact ⟨[], 0, N, rfl, by omega, by omega, hst, World.ownsRow_lit _ _ 0 (Nat.le_refl _) (by simp [maxLen]) rfl, (by repeat' (first | exact Below.refl _ _ | (with_reducible assumption) | (with_reducible refine Below.alloc ?_ ?_ _) | (with_reducible refine Below.setCell ?_ ?_ _) | (with_reducible refine Below.drew ?_) | (with_reducible refine below_drewN ?_ _) | (refine Below.trans ?_ (Below.mono (by assumption) ?_)) | (with_reducible exact Nat.le_refl _) | (with_reducible assumption) | (exact Below.size (by assumption)) | omega | go_size | (simp at *; omega)))⟩
  case round =>
    obtain ⟨out, z, f, rfl, hz, hf, he, ho, hb0⟩ := hrel
    have hB := hb0.size
    by_cases c1 : z < (N : Int)
    · obtain ⟨g, rfl⟩ : ∃ g, f = g + 1 := ⟨f - 1, by omega⟩
      have hol : out.length ≤ 1024 := by have := he.out; have h3 := congrArg List.length this; simp at h3; omega
      by_cases c2 : popc h.toNat z = p
      · have k2 : (popc h.toNat z == p) = true := by simp [c2]
        have HZ : Hid ((out ++ [z]) ++ mskL p h.toNat g (z + 1) = R) := by show _ = _; rw [← he.out, mskL_yes c2]; simp
        clear c2 he
        go_wp2_with (first
          | (go_at_call 55; refine (props_any _ _ _ (by omega) (by omega) hz (by omega)).mono ?_; rintro e w1 ⟨rfl, hb1⟩; obtain ⟨hc1, hf1, hz1, hl1⟩ := bcell hb1; replace ho := own_below (ho.alloc _) hb1; have hB1 : w.heap.size ≤ w1.heap.size := Nat.le_trans (by simp; omega) hz1)
          | (at_builtin; refine push_st ho z _ rfl _ _ rfl rfl rfl (by omega) hB1 ?_; intro v1 w2 ho1 hb2 hg1))
        go_roundw
        case rel => exact ⟨out ++ [z], z + 1, g, rfl, by omega, by omega, HZ, ho1, (by repeat' (first | exact Below.refl _ _ | (with_reducible assumption) | (with_reducible refine Below.alloc ?_ ?_ _) | (with_reducible refine Below.setCell ?_ ?_ _) | (with_reducible refine Below.drew ?_) | (with_reducible refine below_drewN ?_ _) | (refine Below.trans ?_ (Below.mono (by assumption) ?_)) | (with_reducible exact Nat.le_refl _) | (with_reducible assumption) | (exact Below.size (by assumption)) | omega | go_size | (simp at *; omega)))⟩
        case measure => simp [intOf]; omega
      · have k2 : (popc h.toNat z == p) = false := by simp [c2]
        have HZ : Hid (out ++ mskL p h.toNat g (z + 1) = R) := by show _ = _; rw [← he.out, mskL_not c2]
        clear c2 he
        go_wp2_with (go_at_call 55; refine (props_any _ _ _ (by omega) (by omega) hz (by omega)).mono ?_; rintro e w1 ⟨rfl, hb1⟩; obtain ⟨hc1, hf1, hz1, hl1⟩ := bcell hb1; replace ho := own_below (ho.alloc _) hb1)
        go_roundw
        case rel => exact ⟨out, z + 1, g, rfl, by omega, by omega, HZ, ho, (by repeat' (first | exact Below.refl _ _ | (with_reducible assumption) | (with_reducible refine Below.alloc ?_ ?_ _) | (with_reducible refine Below.setCell ?_ ?_ _) | (with_reducible refine Below.drew ?_) | (with_reducible refine below_drewN ?_ _) | (refine Below.trans ?_ (Below.mono (by assumption) ?_)) | (with_reducible exact Nat.le_refl _) | (with_reducible assumption) | (exact Below.size (by assumption)) | omega | go_size | (simp at *; omega)))⟩
        case measure => simp [intOf]; omega
    · go_wp2
      go_ret
      have h0 : f = 0 := by omega
      subst h0
      have := he.out
      rw [mskL, List.append_nil] at this
      subst this
      exact ⟨_, rfl, ho, hb0⟩
end Go.Proofs.Ythbbfhlpoinenaa
