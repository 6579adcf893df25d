/- States of one height as cells; 'append(out, s)', s a state. -/
import Derived.Test.YtlbhfjbbkkkldaaProg
import Derived.Test.YtlbhfjbbkkkldaaKit
namespace Go.Proofs.Ytlbhfjbbkkkldaa
open Go.RowKit
set_option linter.unusedVariables false

/-- States of one height as cells. -/
def sts (h : Int) (xs : List Int) : List Value := xs.flatMap fun m => [.int .i64 h, .int .i64 m]
theorem sts_len (h : Int) (xs : List Int) : (sts h xs).length = xs.length * 2 := by
  induction xs with
  | nil => rfl
  | cons x xs ih =>
    have e : sts h (x :: xs) = [.int .i64 h, .int .i64 x] ++ sts h xs := by simp [sts]
    rw [e, List.length_append, ih, List.length_cons]; simp; omega
theorem sts_snoc (h : Int) (xs : List Int) (y : Int) : sts h xs ++ [.int .i64 h, .int .i64 y] = sts h (xs ++ [y]) := by simp [sts]
theorem inf_state : (Try.prog.info? 119).map (fun i => (i.zero, i.size, i.bytes)) = some (some (.agg #[.int .i64 0, .int .i64 0]), 2, 16) := by kernel_rfl
theorem push_st {w : World} {ops : Array Oper} {rest : List Oper} {o : Oper} {a : Act} {Q : Exit → Act → World → Prop}
    {base : Nat} {v : Value} {xs : List Int} {h : Int} (hown : w.ownsRow base 119 2 v xs.length (sts h xs)) (y : Int) (e2 : TypeId)
    (hgd : o.guard = none) (s x : Operand) (ho : o.op = .call { callee := .builtin .append, args := #[s, x], argTypes := #[116, 116] }) (hs : a.eval s = v) (hx : a.eval x = .slice (some ⟨w.heap.size, 0, none⟩) 1 1)
    (hn : xs.length ≤ 1099511627776) (hbase : base ≤ w.heap.size)
    (hk : ∀ v' w', w'.ownsRow base 119 2 v' (xs ++ [y]).length (sts h (xs ++ [y])) → Below base w w' → w.grownBy w' v.ownBlock → wpList Try.prog ops Q rest (a.put o.dst v') w') :
    wpList Try.prog ops Q (o :: rest) a (w.alloc (.cells #[.int .i64 h, .int .i64 y] e2)) := by
  refine push_own hown #[.int .i64 h, .int .i64 y] e2 Try.underlying116 inf_state rfl (by omega) hgd s x ho hs hx rfl ?_ hn (by omega) hbase fun v' w' h1 h2 h3 => hk v' w' ?_ h2 h3
  · intro u hu; simp at hu; rcases hu with rfl | rfl <;> rfl
  · rw [← sts_snoc, List.length_append]; simpa using h1

end Go.Proofs.Ytlbhfjbbkkkldaa
