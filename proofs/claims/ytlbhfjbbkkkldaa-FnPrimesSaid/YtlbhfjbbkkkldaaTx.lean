/- Texts: bytes that are appended one by one, and the string that is made of them. -/
import Derived.Test.YtlbhfjbbkkkldaaKit
import Derived.Laws.BytesArg
namespace Go.Proofs.Ytlbhfjbbkkkldaa
open Go.RowKit
set_option linter.unusedVariables false

/-- Bytes as cells. -/
def byts (xs : List Int) : List Value := xs.map (Value.int .u8)
theorem byts_snoc (xs : List Int) (x : Int) : byts xs ++ [Value.int .u8 x] = byts (xs ++ [x]) := by simp [byts]
theorem push_u8 {P : Program} {w : World} {ops : Array Oper} {rest : List Oper} {o : Oper} {a : Act} {Q : Exit → Act → World → Prop}
    {base : Nat} {v : Value} {xs : List Int} {e : Nat} (hown : w.ownsRow base e 1 v xs.length (byts xs)) (y : Int) (e2 : TypeId)
    {t : TypeId} {z : Value} (ht : P.underlying t = some (.slice e)) (inf : (P.info? e).map (fun i => (i.zero, i.size, i.bytes)) = some (some z, 1, 1)) (hz : z.cells.size = 1)
    (hgd : o.guard = none) (s x : Operand) (ho : o.op = .call { callee := .builtin .append, args := #[s, x], argTypes := #[t, t] }) (hs : a.eval s = v) (hx : a.eval x = .slice (some ⟨w.heap.size, 0, none⟩) 1 1)
    (hn : xs.length ≤ 1099511627776) (hbase : base ≤ w.heap.size)
    (h : ∀ v' w', w'.ownsRow base e 1 v' (xs ++ [y]).length (byts (xs ++ [y])) → Below base w w' → w.grownBy w' v.ownBlock → wpList P ops Q rest (a.put o.dst v') w') :
    wpList P ops Q (o :: rest) a (w.alloc (.cells #[.int .u8 y] e2)) := by
  refine push_own hown #[.int .u8 y] e2 ht inf hz (by omega) hgd s x ho hs hx rfl ?_ hn (by omega) hbase fun v' w' h1 h2 h3 => h v' w' ?_ h2 h3
  · intro u hu; simp at hu; subst hu; rfl
  · rw [← byts_snoc, List.length_append]; simpa using h1
/-- The string made of an owned row of bytes. -/
theorem string_own {P : Program} {w : World} {base e n c : Nat} {A : Option Addr} {xs : List Int} (h : w.ownsRow base e 1 (.slice A n c) n (byts xs)) (src : TypeId) (hs : P.underlying src = some (.slice e)) (he : P.underlying e = some (.int .u8)) (dst : TypeId) (hd : P.underlying dst = some .string) :
    (convert src dst (.slice A n c)).run P w = .ok (.string (strOfNums xs)) w := by
  have hlen : xs.length = n := by have := h.1; simpa [byts] using this
  rcases Nat.eq_zero_or_pos n with h0 | h0
  · subst h0
    have : xs = [] := List.eq_nil_of_length_eq_zero hlen
    subst this
    rcases A with _ | ad
    · rw [run_convert_bytes_nil w src e hs he 0 c dst hd]; rfl
    · rcases h.2 with ⟨hv, _⟩ | ⟨g, cap, cur, hv, _⟩
      · cases hv
      · injection hv with hv
        injection hv with hv
        subst hv
        exact run_convert_bytes_arg w src e hs he g 0 0 c [] rfl (fun i hi => absurd hi (by omega)) dst hd
  · obtain ⟨b, off, rfl, _, hc⟩ := (Rd.of_own h).2 h0
    refine run_convert_bytes_arg w src e hs he b off n c xs hlen (fun i hi => ?_) dst hd
    refine hc i _ ?_
    rw [byts, List.getElem?_map, List.getD_eq_getElem?_getD, List.getElem?_eq_getElem (by omega)]; rfl
theorem strOf_append (xs ys : List Int) : strOfNums xs ++ strOfNums ys = strOfNums (xs ++ ys) := by
  unfold strOfNums
  rw [ByteArray.mk_append_mk, List.map_append]
end Go.Proofs.Ytlbhfjbbkkkldaa
