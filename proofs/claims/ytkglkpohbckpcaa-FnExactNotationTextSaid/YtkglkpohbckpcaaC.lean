/- Contracts of the laws' own helpers over slices of numbers: copy, compare, mark, look again. -/
import Derived.Test.YtkglkpohbckpcaaProg
import Derived.Test.YtkglkpohbckpcaaKit
import Derived.Deep.QuietTactic
import Derived.BigQuiet
namespace Go.Proofs.Ytkglkpohbckpcaa
open Go.RowKit
set_option linter.unusedVariables false

theorem quiet_same {P : Program} {f : FuncId} {args : Array Value} {w : World} {n : Nat} {v : Value} (h : Calls P f args (w.drewN n) fun e w' => e = .returned v ∧ w.drewN n = w') :
    Calls P f args (w.drewN n) fun e w'' => e = .returned v ∧ ∃ m, w'' = w.drewN m := Calls.quiet_of_same (h.mono fun _ _ ⟨a, b⟩ => ⟨a, b.symm⟩)

theorem inf_int : (Try.prog.info? 2).map (fun i => (i.zero, i.size, i.bytes)) = some (some (.int .i64 0), 1, 8) := by kernel_rfl

/-- The marks k, k + 1, .. -/
def marks (k : Nat) : Nat → List Int
  | 0 => []
  | n + 1 => marks k n ++ [((k + n : Nat) : Int)]
theorem marks_len (k n : Nat) : (marks k n).length = n := by induction n with | zero => rfl | succ n ih => simp [marks, ih]
theorem marks_at (k : Nat) : ∀ (n i : Nat) (x : Int), (marks k n)[i]? = some x → x = ((k + i : Nat) : Int) := by
  intro n
  induction n with
  | zero => intro i x h; simp [marks] at h
  | succ n ih =>
    intro i x h
    rcases Nat.lt_or_ge i n with hl | hl
    · rw [marks, List.getElem?_append_left (by rw [marks_len]; exact hl)] at h; exact ih i x h
    · rw [marks, List.getElem?_append_right (by rw [marks_len]; exact hl), marks_len] at h
      have : i - n = 0 := by
        rcases Nat.eq_zero_or_pos (i - n) with h0 | h0
        · exact h0
        · rw [List.getElem?_eq_none (by simp; omega)] at h; cases h
      rw [this] at h
      simp at h
      have : i = n := by omega
      subst this; omega

theorem marks_step (k0 k : Nat) (us : List Value) (h : k < us.length) : (ints (marks k0 k) ++ us.drop k).set k (.int .i64 ((k0 : Int) + (k : Int))) = ints (marks k0 (k + 1)) ++ us.drop (k + 1) := by
  have hl : (ints (marks k0 k)).length = k := by simp [ints, marks_len]
  rw [List.set_append_right _ _ (by omega), hl, Nat.sub_self, List.drop_eq_getElem_cons h, List.set_cons_zero]
  simp [ints, marks]

theorem take_step (xs : List Int) (us : List Value) (k : Nat) (x : Int) (hx : xs[k]? = some x) (h : k < us.length) : (ints (xs.take k) ++ us.drop k).set k (.int .i64 x) = ints (xs.take (k + 1)) ++ us.drop (k + 1) := by
  obtain ⟨hk, rfl⟩ := List.getElem?_eq_some_iff.1 hx
  have hl : (ints (xs.take k)).length = k := by simp [ints]; omega
  rw [List.set_append_right _ _ (by omega), hl, Nat.sub_self, List.drop_eq_getElem_cons h, List.set_cons_zero, List.take_succ_eq_append_getElem hk]
  simp only [ints, List.map_append, List.map_cons, List.map_nil, List.append_assoc, List.cons_append, List.nil_append]

theorem eqInt64S_same (A A' : Option Addr) (n c c' : Nat) (xs : List Int) (w : World) (hn : n ≤ 1099511627776) (h : Rd w w.heap.size 1 A n (ints xs)) (h' : Rd w w.heap.size 1 A' n (ints xs)) :
    Calls Try.prog 93 #[.slice A n c, .slice A' n c'] w fun e w' => e = .returned (.bool true) ∧ Below w.heap.size w w' := by
  go_enter Try.func93, Try.ntmps93
  go_wp2
  go_loopw [5] (fun i wr => ∃ k : Nat, k ≤ n ∧ i = .int .i64 k ∧ Below w.heap.size w wr) (fun i _ => n - (intOf i).toNat)
  case atStart => exact ⟨0, Nat.zero_le _, rfl, Below.refl _ _⟩
  case round =>
    obtain ⟨k, hk, rfl, hb0⟩ := hrel
    by_cases hlt : k < n
    · obtain ⟨b, off, x, rfl, hb, hx, _, hc⟩ := (h.below hb0 (Nat.le_refl _)).at_ hlt
      obtain ⟨b', off', x', rfl, hb', hx', _, hc'⟩ := (h'.below hb0 (Nat.le_refl _)).at_ hlt
      have : x = x' := by rw [hx] at hx'; exact Option.some.inj hx'
      subst this
      clear hx hx' hb hb' h h'
      go_wp2
      go_quiet (fail)
      go_wp2
      go_roundw
      case rel => exact ⟨k + 1, by omega, by go_num, (by repeat' (first | exact Below.refl _ _ | (with_reducible assumption) | (with_reducible refine Below.alloc ?_ ?_ _) | (with_reducible refine Below.setCell ?_ ?_ _) | (with_reducible refine Below.drew ?_) | (with_reducible refine below_drewN ?_ _) | (refine Below.trans ?_ (Below.mono (by assumption) ?_)) | (with_reducible exact Nat.le_refl _) | (with_reducible assumption) | (exact Below.size (by assumption)) | omega | go_size | (simp at *; omega)))⟩
      case measure => simp [intOf]; omega
    · go_wp2
      go_ret
      exact ⟨rfl, (by repeat' (first | exact Below.refl _ _ | (with_reducible assumption) | (with_reducible refine Below.alloc ?_ ?_ _) | (with_reducible refine Below.setCell ?_ ?_ _) | (with_reducible refine Below.drew ?_) | (with_reducible refine below_drewN ?_ _) | (refine Below.trans ?_ (Below.mono (by assumption) ?_)) | (with_reducible exact Nat.le_refl _) | (with_reducible assumption) | (exact Below.size (by assumption)) | omega | go_size | (simp at *; omega)))⟩
theorem toInt64S_any (A : Option Addr) (n c : Nat) (xs : List Int) (w : World) (hn : n ≤ 1099511627776) (h : Rd w w.heap.size 1 A n (ints xs)) :
    Calls Try.prog 85 #[.slice A n c] w fun e w' => ∃ v, e = .returned v ∧ w'.ownsRow w.heap.size 2 1 v n (ints xs) ∧ Below w.heap.size w w' := by
  go_enter Try.func85, Try.ntmps85
  go_wp2_with (at_make; refine make_own w.heap.size Try.underlying22 inf_int rfl rfl (.tmp 6) (.tmp 6) rfl .i64 .i64 n rfl rfl hn (by omega) (Nat.le_refl _) ?_; intro w1 ho hb1 hlt1)
  go_loopw [4] (fun i wr => ∃ k : Nat, k ≤ n ∧ i = .int .i64 k ∧ wr.ownsRow w.heap.size 2 1 (.slice (some ⟨w.heap.size, 0, none⟩) n n) n (ints (xs.take k) ++ (List.replicate n (Value.int .i64 0)).drop k) ∧ Below w.heap.size w wr) (fun i _ => n - (intOf i).toNat)
  case atStart => exact ⟨0, Nat.zero_le _, rfl, ho, hb1⟩
  case round =>
    obtain ⟨k, hk, rfl, ho, hb0⟩ := hrel
    by_cases hlt : k < n
    · obtain ⟨b, off, x, rfl, hb, hx, _, hc⟩ := (h.below hb0 (Nat.le_refl _)).at_ hlt
      have hcell : ∃ u, wr.cell? ⟨w.heap.size, k, none⟩ = some u := by
        rw [ho.cellAt k (by omega)]
        exact ⟨_, List.getElem?_eq_getElem (by have := h.len; simp [ints]; omega)⟩
      obtain ⟨u, hcell⟩ := hcell
      have hf := ho.frozenAt k
      obtain ⟨ho2, _⟩ := ho.stored k (.int .i64 x)
      rw [take_step _ _ _ _ hx (by simp; omega)] at ho2
      have HO := hid ho2
      clear ho ho2 h hx hb
      go_wp2
      go_roundw
      case rel => exact ⟨k + 1, by omega, by go_num, HO.out, (by repeat' (first | exact Below.refl _ _ | (with_reducible assumption) | (with_reducible refine Below.alloc ?_ ?_ _) | (with_reducible refine Below.setCell ?_ ?_ _) | (with_reducible refine Below.drew ?_) | (with_reducible refine below_drewN ?_ _) | (refine Below.trans ?_ (Below.mono (by assumption) ?_)) | (with_reducible exact Nat.le_refl _) | (with_reducible assumption) | (exact Below.size (by assumption)) | omega | go_size | (simp at *; omega)))⟩
      case measure => simp [intOf]; omega
    · go_wp2
      have : k = n := by omega
      subst this
      go_ret
      rw [List.drop_eq_nil_of_le (by simp), List.append_nil, List.take_of_length_le (by rw [h.len]; exact Nat.le_refl _)] at ho
      exact ⟨_, rfl, ho, hb0⟩
end Go.Proofs.Ytkglkpohbckpcaa
