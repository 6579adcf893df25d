/- Contracts of the functions that cut texts: cut, l01Split. -/
import Derived.Test.YtlbhfjbbkkkldaaProg
import Derived.Test.YtlbhfjbbkkkldaaTl
import Derived.Test.YtlbhfjbbkkkldaaAp
import Derived.Deep.QuietTactic
import Derived.BigQuiet
import Derived.IntWalk
namespace Go.Proofs.Ytlbhfjbbkkkldaa
open Go.RowKit
set_option linter.unusedVariables false

/-- What a cut gives. -/
def CutRes (r : List UInt8 × List UInt8 × Bool) (e : Ending) : Prop := ∃ a b : ByteArray, e = .returned (.tuple #[.string a, .string b, .bool r.2.2]) ∧ tl a = r.1 ∧ tl b = r.2.1
theorem take_not {l : List UInt8} {k : Nat} {x c : UInt8} (hx : l[k]? = some x) (h : c ∉ l.take k) (hne : x ≠ c) : c ∉ l.take (k + 1) := by
  rw [List.take_add_one, hx, List.mem_append, not_or]
  exact ⟨h, by simp; exact fun e => hne e.symm⟩
theorem cutL_here {l : List UInt8} {k : Nat} {c : UInt8} (hx : l[k]? = some c) (h : c ∉ l.take k) : cutL c l = (l.take k, l.drop (k + 1), true) := by
  have hk := (List.getElem?_eq_some_iff.1 hx).1
  have e : l = l.take k ++ c :: l.drop (k + 1) := by
    conv => lhs; rw [← List.take_append_drop k l]
    rw [List.drop_eq_getElem_cons hk, (List.getElem?_eq_some_iff.1 hx).2]
  conv => lhs; rw [e]
  exact cutL_yes _ h
theorem one_at (s : ByteArray) (k : Nat) (h : k < s.size) : s.extract k (k + 1) = st [s[k]] := by
  refine tl_inj ?_
  rw [tl_extract, tl_st, List.drop_take]
  rw [tl_drop s k h, show k + 1 - k = 1 by omega]; rfl
theorem str_eq (a b : ByteArray) : (a.toList == b.toList) = decide (tl a = tl b) := by
  rw [ByteArray.toList_eq, ByteArray.toList_eq, Bool.eq_iff_iff]; simp [tl]
theorem cut_any (s : ByteArray) (c : UInt8) (w : World) (hs : s.size ≤ 1099511627776) :
    Calls Try.prog 139 #[.string s, .string ⟨#[c]⟩] w fun e w' => CutRes (cutL c (tl s)) e ∧ Below w.heap.size w w' := by
  obtain ⟨sep, hsep⟩ : ∃ sep : ByteArray, sep = ⟨#[c]⟩ := ⟨_, rfl⟩
  have hz : sep.size = 1 := by rw [hsep]; rfl
  rw [← hsep]
  have HS := hid hsep
  clear hsep
  go_enter Try.func139, Try.ntmps139
  go_wp2
  go_loopw [7] (fun i wr => Hid (∃ k : Nat, k ≤ s.size ∧ i = .int .i64 k ∧ Hid (c ∉ (tl s).take k) ∧ Below w.heap.size w wr)) (fun i _ => s.size - (intOf i).toNat)
  case atStart => exact hid ⟨0, Nat.zero_le _, rfl, hid (p := c ∉ (tl s).take 0) (by simp), (by repeat' (first | exact Below.refl _ _ | (with_reducible assumption) | (with_reducible refine Below.alloc ?_ ?_ _) | (with_reducible refine Below.setCell ?_ ?_ _) | (with_reducible refine Below.drew ?_) | (with_reducible refine below_drewN ?_ _) | (refine Below.trans ?_ (Below.mono (by assumption) ?_)) | (with_reducible exact Nat.le_refl _) | (with_reducible assumption) | (exact Below.size (by assumption)) | omega | go_size | (simp at *; omega)))⟩
  case round =>
    obtain ⟨k, hk, rfl, hn, hb0⟩ := hrel.out
    clear hrel
    by_cases hlt : k < s.size
    · have hx := tl_at s k hlt
      have hone := one_at s k hlt
      have hle : (k : Int) + 1 ≤ (s.size : Int) := by omega
      have hke : (k : Int) ≤ (k : Int) + 1 := by omega
      obtain ⟨sub, hsub⟩ : ∃ sub, s.extract k (k + 1) = sub := ⟨_, rfl⟩
      rw [hsub] at hone
      by_cases hc : s[k] = c
      · have hq : (sub.toList == sep.toList) = true := by
          rw [str_eq, hone, tl_st, HS.out, hc]; exact decide_eq_true rfl
        have HC : Hid (cutL c (tl s) = ((tl s).take k, (tl s).drop (k + 1), true)) := by
          show _ = _
          rw [hc] at hx
          exact cutL_here hx hn.out
        have hw : IntKind.i64.wrap ((k : Int) + 1) = (k : Int) + 1 := IntWalk.i64_in _ (by omega)
        have hp0 : (0 : Int) ≤ (k : Int) + 1 := by omega
        have hki : (k : Int) ≤ (s.size : Int) := by omega
        have ht : ((k : Int) + 1).toNat = k + 1 := by omega
        clear hx hone hc hn
        go_wp2
        clear hsub
        go_quiet (fail)
        clear hw ht
        go_wp2
        go_ret3
        refine ⟨?_, (by repeat' (first | exact Below.refl _ _ | (with_reducible assumption) | (with_reducible refine Below.alloc ?_ ?_ _) | (with_reducible refine Below.setCell ?_ ?_ _) | (with_reducible refine Below.drew ?_) | (with_reducible refine below_drewN ?_ _) | (refine Below.trans ?_ (Below.mono (by assumption) ?_)) | (with_reducible exact Nat.le_refl _) | (with_reducible assumption) | (exact Below.size (by assumption)) | omega | go_size | (simp at *; omega)))⟩
        rw [HC.out]
        exact ⟨_, _, rfl, by rw [tl_extract]; simp, by rw [tl_extract, List.take_of_length_le (by rw [tl_len]; exact Nat.le_refl _)]⟩
      · have hq : (sub.toList == sep.toList) = false := by
          rw [str_eq, hone, tl_st, HS.out]; exact decide_eq_false (fun e => hc (by injection e))
        have HN := hid (take_not hx hn.out hc)
        clear hx hone hc hn
        go_wp2
        go_roundw
        case rel => exact hid ⟨k + 1, by omega, by go_num, HN, (by repeat' (first | exact Below.refl _ _ | (with_reducible assumption) | (with_reducible refine Below.alloc ?_ ?_ _) | (with_reducible refine Below.setCell ?_ ?_ _) | (with_reducible refine Below.drew ?_) | (with_reducible refine below_drewN ?_ _) | (refine Below.trans ?_ (Below.mono (by assumption) ?_)) | (with_reducible exact Nat.le_refl _) | (with_reducible assumption) | (exact Below.size (by assumption)) | omega | go_size | (simp at *; omega)))⟩
        case measure => simp [intOf]; omega
    · have hkk : k = s.size := by omega
      have HC : Hid (cutL c (tl s) = (tl s, [], false)) := by
        show _ = _
        have h := hn.out
        rw [List.take_of_length_le (by rw [tl_len]; omega)] at h
        exact cutL_not h
      have hnl : ¬ (k : Int) + 1 ≤ (s.size : Int) := by omega
      clear hn hkk
      go_wp2
      go_ret3
      refine ⟨?_, hb0⟩
      rw [HC.out]
      exact ⟨_, _, rfl, rfl, rfl⟩
/-- Texts as cells. -/
def strs (L : List ByteArray) : List Value := L.map Value.string
theorem strs_snoc (L : List ByteArray) (x : ByteArray) : strs L ++ [Value.string x] = strs (L ++ [x]) := by simp [strs]
theorem inf_str : (Try.prog.info? 9).map (fun i => (i.zero, i.size, i.bytes)) = some (some (.string ⟨#[]⟩), 1, 16) := by kernel_rfl
/-- 'append(out, s)', s a text. -/
theorem push_str {w : World} {ops : Array Oper} {rest : List Oper} {o : Oper} {a : Act} {Q : Exit → Act → World → Prop}
    {base : Nat} {v : Value} {L : List ByteArray} (hown : w.ownsRow base 9 1 v L.length (strs L)) (x : ByteArray) (e2 : TypeId)
    (hgd : o.guard = none) (s z : Operand) (ho : o.op = .call { callee := .builtin .append, args := #[s, z], argTypes := #[81, 81] }) (hs : a.eval s = v) (hx : a.eval z = .slice (some ⟨w.heap.size, 0, none⟩) 1 1)
    (hn : L.length ≤ 1099511627776) (hbase : base ≤ w.heap.size)
    (h : ∀ v' w', w'.ownsRow base 9 1 v' (L ++ [x]).length (strs (L ++ [x])) → Below base w w' → w.grownBy w' v.ownBlock → wpList Try.prog ops Q rest (a.put o.dst v') w') :
    wpList Try.prog ops Q (o :: rest) a (w.alloc (.cells #[.string x] e2)) := by
  refine push_own hown #[.string x] e2 Try.underlying81 inf_str rfl (by omega) hgd s z ho hs hx rfl (fun u hu => by simp at hu; subst hu; rfl) hn (by omega) hbase fun v' w' h1 h2 h3 => h v' w' ?_ h2 h3
  rw [← strs_snoc, List.length_append]; exact h1
theorem splitL_here {c : UInt8} {l : List UInt8} {f k : Nat} (hf : f ≤ k) (hx : l[k]? = some c) (h : c ∉ (l.drop f).take (k - f)) : splitL c (l.drop f) = (l.drop f).take (k - f) :: splitL c (l.drop (k + 1)) := by
  have hk := (List.getElem?_eq_some_iff.1 hx).1
  have hx2 : (l.drop f)[k - f]? = some c := by rw [List.getElem?_drop, show f + (k - f) = k by omega]; exact hx
  have hk2 := (List.getElem?_eq_some_iff.1 hx2).1
  have e : l.drop f = (l.drop f).take (k - f) ++ c :: l.drop (k + 1) := by
    conv => lhs; rw [← List.take_append_drop (k - f) (l.drop f)]
    rw [List.drop_eq_getElem_cons hk2, (List.getElem?_eq_some_iff.1 hx2).2, List.drop_drop, show f + (k - f + 1) = k + 1 by omega]
  conv => lhs; rw [e]
  exact splitL_yes _ h
/-- The parts of a text, of the call's own. -/
def SplRes (B : Nat) (P : List (List UInt8)) (e : Ending) (w : World) : Prop := ∃ v, ∃ L : List ByteArray, e = .returned v ∧ w.ownsRow B 9 1 v L.length (strs L) ∧ L.map tl = P
theorem l01Split_any (s : ByteArray) (c : UInt8) (w : World) (hs : s.size ≤ 1099511627775) :
    Calls Try.prog 144 #[.string s, .int .u8 (c.toNat : Int)] w fun e w' => SplRes w.heap.size (splitL c (tl s)) e w' ∧ Below w.heap.size w w' := by
  have hst : Hid (([] : List ByteArray).map tl ++ splitL c ((tl s).drop 0) = splitL c (tl s)) := rfl
  obtain ⟨R, hR⟩ : ∃ R, splitL c (tl s) = R := ⟨_, rfl⟩
  rw [hR] at hst ⊢
  have HR := hid hR
  clear hR
  go_enter Try.func144, Try.ntmps144
  go_wp2
  go_loopw [5, 6, 7] (fun v u i wr => Hid (∃ (f k : Nat) (L : List ByteArray), k ≤ s.size ∧ f ≤ k ∧ i = .int .i64 k ∧ u = .int .i64 f ∧ L.length ≤ f ∧ Hid (L.map tl ++ splitL c ((tl s).drop f) = R) ∧ Hid (c ∉ ((tl s).drop f).take (k - f)) ∧ wr.ownsRow w.heap.size 9 1 v L.length (strs L) ∧ Below w.heap.size w wr)) (fun _ _ i _ => s.size - (intOf i).toNat)
  case atStart => exact hid ⟨0, 0, [], Nat.zero_le _, Nat.zero_le _, rfl, rfl, by simp, hst, hid (p := c ∉ ((tl s).drop 0).take (0 - 0)) (by simp), World.ownsRow_lit _ _ 0 (Nat.le_refl _) (by simp [maxLen]) rfl, (by repeat' (first | exact Below.refl _ _ | (with_reducible assumption) | (with_reducible refine Below.alloc ?_ ?_ _) | (with_reducible refine Below.setCell ?_ ?_ _) | (with_reducible refine Below.drew ?_) | (with_reducible refine below_drewN ?_ _) | (refine Below.trans ?_ (Below.mono (by assumption) ?_)) | (with_reducible exact Nat.le_refl _) | (with_reducible assumption) | (exact Below.size (by assumption)) | omega | go_size | (simp at *; omega)))⟩
  case round =>
    obtain ⟨f, k, L, hk, hf, rfl, rfl, hL, he, hn, ho, hb0⟩ := hrel.out
    clear hrel
    have hz := hb0.size
    by_cases hlt : k < s.size
    · have hx := tl_at s k hlt
      by_cases hc : s[k] = c
      · have hq : (((s[k]'hlt).toNat : Int) == (c.toNat : Int)) = true := by rw [hc]; simp
        have HE : Hid ((L ++ [s.extract f k]).map tl ++ splitL c ((tl s).drop (k + 1)) = R) := by
          show _ = _
          rw [hc] at hx
          rw [← he.out, splitL_here hf hx hn.out, List.map_append, List.append_assoc, List.map_cons, List.map_nil, tl_extract, List.drop_take]; rfl
        have hfk : (f : Int) ≤ (k : Int) := by omega
        have hki : (k : Int) ≤ (s.size : Int) := by omega
        clear hx hc he hn
        go_wp2_with (at_builtin; refine push_str ho (s.extract f k) _ rfl _ _ rfl rfl rfl (by omega) hz ?_; intro v1 w1 ho1 hb1 hg1)
        go_roundw
        case rel => exact hid ⟨k + 1, k + 1, L ++ [s.extract f k], by omega, Nat.le_refl _, by go_num, by go_num, by rw [List.length_append, List.length_singleton]; omega, HE, hid (p := c ∉ ((tl s).drop (k + 1)).take (k + 1 - (k + 1))) (by simp), ho1, (by repeat' (first | exact Below.refl _ _ | (with_reducible assumption) | (with_reducible refine Below.alloc ?_ ?_ _) | (with_reducible refine Below.setCell ?_ ?_ _) | (with_reducible refine Below.drew ?_) | (with_reducible refine below_drewN ?_ _) | (refine Below.trans ?_ (Below.mono (by assumption) ?_)) | (with_reducible exact Nat.le_refl _) | (with_reducible assumption) | (exact Below.size (by assumption)) | omega | go_size | (simp at *; omega)))⟩
        case measure => simp [intOf]; omega
      · have hq : (((s[k]'hlt).toNat : Int) == (c.toNat : Int)) = false := by
          simp only [beq_eq_false_iff_ne, ne_eq, Int.natCast_inj]
          exact fun e => hc (UInt8.toNat_inj.1 e)
        have HN : Hid (c ∉ ((tl s).drop f).take (k + 1 - f)) := by
          have hx2 : ((tl s).drop f)[k - f]? = some s[k] := by rw [List.getElem?_drop, show f + (k - f) = k by omega]; exact hx
          have := take_not hx2 hn.out hc
          rw [show k - f + 1 = k + 1 - f by omega] at this
          exact this
        clear hx hc hn
        go_wp2
        go_roundw
        case rel => exact hid ⟨f, k + 1, L, by omega, by omega, by go_num, rfl, hL, he, HN, ho, hb0⟩
        case measure => simp [intOf]; omega
    · have hkk : k = s.size := by omega
      have HE : Hid ((L ++ [s.extract f s.size]).map tl = R) := by
        show _ = _
        have h := hn.out
        rw [hkk, List.take_of_length_le (by rw [List.length_drop, tl_len]; omega)] at h
        rw [← he.out, splitL_not h, List.map_append, List.map_cons, List.map_nil, tl_extract, List.take_of_length_le (by rw [tl_len]; exact Nat.le_refl _)]
      have hfk : (f : Int) ≤ (s.size : Int) := by omega
      clear he hn hkk
      go_wp2_with (at_builtin; refine push_str ho (s.extract f s.size) _ rfl _ _ rfl rfl rfl (by omega) hz ?_; intro v1 w1 ho1 hb1 hg1)
      go_ret
      exact ⟨⟨_, _, rfl, ho1, HE.out⟩, (by repeat' (first | exact Below.refl _ _ | (with_reducible assumption) | (with_reducible refine Below.alloc ?_ ?_ _) | (with_reducible refine Below.setCell ?_ ?_ _) | (with_reducible refine Below.drew ?_) | (with_reducible refine below_drewN ?_ _) | (refine Below.trans ?_ (Below.mono (by assumption) ?_)) | (with_reducible exact Nat.le_refl _) | (with_reducible assumption) | (exact Below.size (by assumption)) | omega | go_size | (simp at *; omega)))⟩
end Go.Proofs.Ytlbhfjbbkkkldaa
