/- Contracts of the laws' own helpers over slices of states, and of the functions of the graphs of states. -/
import Derived.Test.YteaabniemlnjbaaPs
import Derived.Test.YteaabniemlnjbaaC
import Derived.StillTailTactics
namespace Go.Proofs.Yteaabniemlnjbaa
open Go.RowKit
set_option linter.unusedVariables false

/-- The numbers' two cells of the state at i. -/
theorem sts_at {h : Int} : ∀ {xs : List Int} {i : Nat} {x : Int}, xs[i]? = some x → (sts h xs)[i * 2]? = some (.int .i64 h) ∧ (sts h xs)[i * 2 + 1]? = some (.int .i64 x) := by
  intro xs
  induction xs with
  | nil => intro i x k; simp at k
  | cons y xs ih =>
    intro i x k
    have e : sts h (y :: xs) = .int .i64 h :: .int .i64 y :: sts h xs := by simp [sts]
    rw [e]
    cases i with
    | zero => simp at k; subst k; simp
    | succ i =>
      simp only [List.getElem?_cons_succ] at k
      have := ih k
      have e1 : (i + 1) * 2 = i * 2 + 2 := by omega
      rw [e1]
      simpa using this
theorem Rd.st_at {w : World} {B n i : Nat} {A : Option Addr} {h : Int} {xs : List Int} (k : Rd w B 2 A n (sts h xs)) (hi : i < n) :
    ∃ b off x, A = some ⟨b, off, none⟩ ∧ b < B ∧ xs[i]? = some x ∧ w.cell? ⟨b, off + i * 2, none⟩ = some (.int .i64 h) ∧ w.cell? ⟨b, off + i * 2 + 1, none⟩ = some (.int .i64 x) := by
  obtain ⟨b, off, e, hb, hc⟩ := k.2 (by omega)
  have hl : i < xs.length := by have := k.1; rw [sts_len] at this; omega
  have := sts_at (h := h) (List.getElem?_eq_getElem hl)
  exact ⟨b, off, xs[i], e, hb, List.getElem?_eq_getElem hl, hc _ _ this.1, by rw [Nat.add_assoc]; exact hc _ _ this.2⟩

theorem eqState_same (h m : Int) (w : World) :
    Calls Try.prog 94 #[.agg #[.int .i64 h, .int .i64 m], .agg #[.int .i64 h, .int .i64 m]] w fun e w' => e = .returned (.bool true) ∧ Below w.heap.size w w' := by
  go_enter Try.func94, Try.ntmps94
  go_wp2
  go_ret
  exact ⟨rfl, (by repeat' (first | exact Below.refl _ _ | (with_reducible assumption) | (with_reducible refine Below.alloc ?_ ?_ _) | (with_reducible refine Below.setCell ?_ ?_ _) | (with_reducible refine Below.drew ?_) | (with_reducible refine below_drewN ?_ _) | (refine Below.trans ?_ (Below.mono (by assumption) ?_)) | (with_reducible exact Nat.le_refl _) | (with_reducible assumption) | (exact Below.size (by assumption)) | omega | go_size | (simp at *; omega)))⟩
theorem eqStateS_same (A A' : Option Addr) (n c c' : Nat) (h : Int) (xs : List Int) (w : World) (hn : n ≤ 1099511627776) (k : Rd w w.heap.size 2 A n (sts h xs)) (k' : Rd w w.heap.size 2 A' n (sts h xs)) :
    Calls Try.prog 29 #[.slice A n c, .slice A' n c'] w fun e w' => e = .returned (.bool true) ∧ Below w.heap.size w w' := by
  go_enter Try.func29, Try.ntmps29
  go_wp2
  go_loopw [5] (fun i wr => ∃ k : Nat, k ≤ n ∧ i = .int .i64 k ∧ Below w.heap.size w wr) (fun i _ => n - (intOf i).toNat)
  case atStart => exact ⟨0, Nat.zero_le _, rfl, Below.refl _ _⟩
  case round =>
    obtain ⟨i, hi, rfl, hb0⟩ := hrel
    by_cases hlt : i < n
    · obtain ⟨b, off, x, rfl, hb, hx, hc, hd⟩ := (k.below hb0 (Nat.le_refl _)).st_at hlt
      obtain ⟨b', off', x', rfl, hb', hx', hc', hd'⟩ := (k'.below hb0 (Nat.le_refl _)).st_at hlt
      have : x = x' := by rw [hx] at hx'; exact Option.some.inj hx'
      subst this
      clear hx hx' hb hb' k k'
      go_wp2
      go_still_tail 8, (by kernel_rfl)
      change wpList _ _ _ _ _ wr.drew
      have hb1 : Below w.heap.size w wr.drew := hb0.drew
      generalize wr.drew = w2 at *
      go_wp2_with (go_at_call 94; refine (eqState_same _ _ _).mono ?_; rintro e w3 ⟨rfl, hb2⟩)
      go_roundw
      case rel => exact ⟨i + 1, by omega, by go_num, (by repeat' (first | exact Below.refl _ _ | (with_reducible assumption) | (with_reducible refine Below.alloc ?_ ?_ _) | (with_reducible refine Below.setCell ?_ ?_ _) | (with_reducible refine Below.drew ?_) | (with_reducible refine below_drewN ?_ _) | (refine Below.trans ?_ (Below.mono (by assumption) ?_)) | (with_reducible exact Nat.le_refl _) | (with_reducible assumption) | (exact Below.size (by assumption)) | omega | go_size | (simp at *; omega)))⟩
      case measure => simp [intOf]; omega
    · go_wp2
      go_ret
      exact ⟨rfl, (by repeat' (first | exact Below.refl _ _ | (with_reducible assumption) | (with_reducible refine Below.alloc ?_ ?_ _) | (with_reducible refine Below.setCell ?_ ?_ _) | (with_reducible refine Below.drew ?_) | (with_reducible refine below_drewN ?_ _) | (refine Below.trans ?_ (Below.mono (by assumption) ?_)) | (with_reducible exact Nat.le_refl _) | (with_reducible assumption) | (exact Below.size (by assumption)) | omega | go_size | (simp at *; omega)))⟩

theorem markStateS_any (v : Value) (n base k0 : Nat) (us : List Value) (w : World) (hn : n ≤ 1099511627776) (hk0 : k0 ≤ 1099511627776) (h : w.ownsRow base 64 2 v n us) :
    Calls Try.prog 30 #[v, .int .i64 k0] w fun e w' => e = .returned (.int .i64 ((k0 + n * 2 : Nat) : Int)) ∧ w'.ownsRow base 64 2 v n (ints (marks k0 (n * 2))) ∧ w.grownBy w' v.ownBlock := by
  obtain ⟨A, c, rfl⟩ := own_form h
  go_enter Try.func30, Try.ntmps30
  go_wp2
  go_loopw [1, 5] (fun m i wr => ∃ k : Nat, k ≤ n ∧ i = .int .i64 k ∧ m = .int .i64 ((k0 + k * 2 : Nat) : Int) ∧ wr.ownsRow base 64 2 (.slice A n c) n (ints (marks k0 (k * 2)) ++ us.drop (k * 2)) ∧ w.grownBy wr (Value.slice A n c).ownBlock) (fun _ i _ => n - (intOf i).toNat)
  case atStart => exact ⟨0, Nat.zero_le _, rfl, rfl, h, World.grownBy.refl _ _⟩
  case round =>
    obtain ⟨k, hk, rfl, rfl, ho, hg⟩ := hrel
    by_cases hlt : k < n
    · rcases ho.2 with ⟨_, h0⟩ | ⟨g, cap, cur, hv, hge, hh, r⟩
      · omega
      · have hA : A = some ⟨g, 0, none⟩ := by injection hv
        have hlen := h.1
        subst hA
        have hcell : ∃ u, wr.cell? ⟨g, k * 2, none⟩ = some u := by
          rw [ho.cellAt (k * 2) (by omega)]
          exact ⟨_, List.getElem?_eq_getElem (by simp [ints, marks_len]; omega)⟩
        have hcell' : ∃ u, wr.cell? ⟨g, k * 2 + 1, none⟩ = some u := by
          rw [ho.cellAt (k * 2 + 1) (by omega)]
          exact ⟨_, List.getElem?_eq_getElem (by simp [ints, marks_len]; omega)⟩
        obtain ⟨u, hcell⟩ := hcell
        obtain ⟨u', hcell'⟩ := hcell'
        have hf := ho.frozenAt (k * 2)
        have hf' := ho.frozenAt (k * 2 + 1)
        obtain ⟨ho2, hg2⟩ := ho.stored (k * 2) (.int .i64 ((k0 : Int) + (k : Int) * 2))
        obtain ⟨ho3, hg3⟩ := ho2.stored (k * 2 + 1) (.int .i64 ((k0 : Int) + (k : Int) * 2 + 1))
        have e1 : ((k0 : Int) + (k : Int) * 2) = (k0 : Int) + ((k * 2 : Nat) : Int) := by omega
        have e2 : ((k0 : Int) + (k : Int) * 2 + 1) = (k0 : Int) + ((k * 2 + 1 : Nat) : Int) := by omega
        have HO : Hid (World.ownsRow ((wr.setCell ⟨g, k * 2, none⟩ (.int .i64 ((k0 : Int) + (k : Int) * 2))).setCell ⟨g, k * 2 + 1, none⟩ (.int .i64 ((k0 : Int) + (k : Int) * 2 + 1))) base 64 2 (.slice (some ⟨g, 0, none⟩) n c) n (ints (marks k0 ((k + 1) * 2)) ++ us.drop ((k + 1) * 2))) := by
          have h5 := ho3
          rw [e1, marks_step _ _ _ (by omega), ← e1, e2, marks_step _ _ _ (by omega), ← e2] at h5
          have e3 : (k + 1) * 2 = k * 2 + 1 + 1 := by omega
          show World.ownsRow _ _ _ _ _ _ _
          rw [e3]; exact h5
        have HG : Hid (w.grownBy ((wr.setCell ⟨g, k * 2, none⟩ (.int .i64 ((k0 : Int) + (k : Int) * 2))).setCell ⟨g, k * 2 + 1, none⟩ (.int .i64 ((k0 : Int) + (k : Int) * 2 + 1))) (some g)) :=
          ⟨hg3.os.trans (hg2.os.trans hg.os), hg3.tape.trans (hg2.tape.trans hg.tape), hg3.output.trans (hg2.output.trans hg.output), Nat.le_trans hg.size (Nat.le_trans hg2.size hg3.size), fun j hj hne => (hg3.block j (Nat.lt_of_lt_of_le hj (Nat.le_trans hg.size hg2.size)) hne).trans ((hg2.block j (Nat.lt_of_lt_of_le hj hg.size) hne).trans (hg.block j hj hne))⟩
        clear hv hh r ho ho2 hg hg2 ho3 hg3 e1 e2
        go_wp2
        go_roundw
        case rel => exact ⟨k + 1, by omega, by go_num, by go_num, HO.out, HG.out⟩
        case measure => simp [intOf]; omega
    · go_wp2
      have : k = n := by omega
      subst this
      go_ret
      refine ⟨rfl, ?_, hg⟩
      rwa [List.drop_eq_nil_of_le (by have := h.1; omega), List.append_nil] at ho
theorem heldStateS_any (A : Option Addr) (n c k0 : Nat) (w : World) (hn : n ≤ 1099511627776) (hk0 : k0 ≤ 1099511627776) (h : Rd w w.heap.size 2 A n (ints (marks k0 (n * 2)))) :
    Calls Try.prog 31 #[.slice A n c, .int .i64 k0] w fun e w' => e = .returned (.int .i64 ((k0 + n * 2 : Nat) : Int)) ∧ Below w.heap.size w w' := by
  go_enter Try.func31, Try.ntmps31
  go_wp2
  go_loopw [1, 5] (fun m i wr => ∃ k : Nat, k ≤ n ∧ i = .int .i64 k ∧ m = .int .i64 ((k0 + k * 2 : Nat) : Int) ∧ Below w.heap.size w wr) (fun _ i _ => n - (intOf i).toNat)
  case atStart => exact ⟨0, Nat.zero_le _, rfl, rfl, Below.refl _ _⟩
  case round =>
    obtain ⟨k, hk, rfl, rfl, hb0⟩ := hrel
    by_cases hlt : k < n
    · obtain ⟨b, off, rfl, hb, hcs⟩ := (h.below hb0 (Nat.le_refl _)).2 (by omega)
      have hc : wr.cell? ⟨b, off + k * 2, none⟩ = some (.int .i64 ((k0 : Int) + (k : Int) * 2)) := by
        refine hcs _ _ ?_
        rw [ints, List.getElem?_map, List.getElem?_eq_getElem (by rw [marks_len]; omega)]
        have := marks_at k0 (n * 2) (k * 2) _ (List.getElem?_eq_getElem (by rw [marks_len]; omega))
        rw [this]; simp
      have hc' : wr.cell? ⟨b, off + k * 2 + 1, none⟩ = some (.int .i64 ((k0 : Int) + (k : Int) * 2 + 1)) := by
        rw [Nat.add_assoc]
        refine hcs _ _ ?_
        rw [ints, List.getElem?_map, List.getElem?_eq_getElem (by rw [marks_len]; omega)]
        have := marks_at k0 (n * 2) (k * 2 + 1) _ (List.getElem?_eq_getElem (by rw [marks_len]; omega))
        rw [this]; simp; omega
      have hq : (((k0 : Int) + (k : Int) * 2) != ((k0 : Int) + (k : Int) * 2)) = false := by simp
      have hq' : (((k0 : Int) + (k : Int) * 2 + 1) != ((k0 : Int) + (k : Int) * 2 + 1)) = false := by simp
      clear hcs hb h
      go_wp2
      go_roundw
      case rel => exact ⟨k + 1, by omega, by go_num, by go_num, (by repeat' (first | exact Below.refl _ _ | (with_reducible assumption) | (with_reducible refine Below.alloc ?_ ?_ _) | (with_reducible refine Below.setCell ?_ ?_ _) | (with_reducible refine Below.drew ?_) | (with_reducible refine below_drewN ?_ _) | (refine Below.trans ?_ (Below.mono (by assumption) ?_)) | (with_reducible exact Nat.le_refl _) | (with_reducible assumption) | (exact Below.size (by assumption)) | omega | go_size | (simp at *; omega)))⟩
      case measure => simp [intOf]; omega
    · go_wp2
      have : k = n := by omega
      subst this
      go_ret
      exact ⟨rfl, (by repeat' (first | exact Below.refl _ _ | (with_reducible assumption) | (with_reducible refine Below.alloc ?_ ?_ _) | (with_reducible refine Below.setCell ?_ ?_ _) | (with_reducible refine Below.drew ?_) | (with_reducible refine below_drewN ?_ _) | (refine Below.trans ?_ (Below.mono (by assumption) ?_)) | (with_reducible exact Nat.le_refl _) | (with_reducible assumption) | (exact Below.size (by assumption)) | omega | go_size | (simp at *; omega)))⟩
end Go.Proofs.Yteaabniemlnjbaa
