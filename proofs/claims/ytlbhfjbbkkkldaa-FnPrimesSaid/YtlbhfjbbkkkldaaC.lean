/- Contracts of the laws' own helpers over slices of numbers: copy, compare, mark, look again. -/
import Derived.Test.YtlbhfjbbkkkldaaProg
import Derived.Test.YtlbhfjbbkkkldaaKit
import Derived.Deep.QuietTactic
import Derived.BigQuiet
namespace Go.Proofs.Ytlbhfjbbkkkldaa
open Go.RowKit
set_option linter.unusedVariables false

theorem quiet_same {P : Program} {f : FuncId} {args : Array Value} {w : World} {n : Nat} {v : Value} (h : Calls P f args (w.drewN n) fun e w' => e = .returned v ∧ w.drewN n = w') :
    Calls P f args (w.drewN n) fun e w'' => e = .returned v ∧ ∃ m, w'' = w.drewN m := Calls.quiet_of_same (h.mono fun _ _ ⟨a, b⟩ => ⟨a, b.symm⟩)

theorem inf_int : (Try.prog.info? 2).map (fun i => (i.zero, i.size, i.bytes)) = some (some (.int .i64 0), 1, 8) := by kernel_rfl

/-- The marks k, k + 1, .. -/
def marks (k : Nat) : Nat → List Int
  | 0 => []
  | n + 1 => marks k n ++ [((k + n : Nat) : Int)]
theorem marks_len (k n : Nat) : (marks k n).length = n := by induction n with | zero => rfl | succ n ih => simp [marks, ih]
theorem marks_at (k : Nat) : ∀ (n i : Nat) (x : Int), (marks k n)[i]? = some x → x = ((k + i : Nat) : Int) := by
  intro n
  induction n with
  | zero => intro i x h; simp [marks] at h
  | succ n ih =>
    intro i x h
    rcases Nat.lt_or_ge i n with hl | hl
    · rw [marks, List.getElem?_append_left (by rw [marks_len]; exact hl)] at h; exact ih i x h
    · rw [marks, List.getElem?_append_right (by rw [marks_len]; exact hl), marks_len] at h
      have : i - n = 0 := by
        rcases Nat.eq_zero_or_pos (i - n) with h0 | h0
        · exact h0
        · rw [List.getElem?_eq_none (by simp; omega)] at h; cases h
      rw [this] at h
      simp at h
      have : i = n := by omega
      subst this; omega

theorem marks_step (k0 k : Nat) (us : List Value) (h : k < us.length) : (ints (marks k0 k) ++ us.drop k).set k (.int .i64 ((k0 : Int) + (k : Int))) = ints (marks k0 (k + 1)) ++ us.drop (k + 1) := by
  have hl : (ints (marks k0 k)).length = k := by simp [ints, marks_len]
  rw [List.set_append_right _ _ (by omega), hl, Nat.sub_self, List.drop_eq_getElem_cons h, List.set_cons_zero]
  simp [ints, marks]

theorem take_step (xs : List Int) (us : List Value) (k : Nat) (x : Int) (hx : xs[k]? = some x) (h : k < us.length) : (ints (xs.take k) ++ us.drop k).set k (.int .i64 x) = ints (xs.take (k + 1)) ++ us.drop (k + 1) := by
  obtain ⟨hk, rfl⟩ := List.getElem?_eq_some_iff.1 hx
  have hl : (ints (xs.take k)).length = k := by simp [ints]; omega
  rw [List.set_append_right _ _ (by omega), hl, Nat.sub_self, List.drop_eq_getElem_cons h, List.set_cons_zero, List.take_succ_eq_append_getElem hk]
  simp only [ints, List.map_append, List.map_cons, List.map_nil, List.append_assoc, List.cons_append, List.nil_append]

end Go.Proofs.Ytlbhfjbbkkkldaa
