/- Several texts in one: Qv, Qw, Qx, Qy, Ra, Rb. -/
import Derived.Test.YtlbhfjbbkkkldaaQi
import Derived.Test.YtlbhfjbbkkkldaaAp
import Derived.Test.YtlbhfjbbkkkldaaT
import Derived.Deep.RegionHeld3
import Derived.Test.YtlbhfjbbkkkldaaQb
import Derived.Test.YtlbhfjbbkkkldaaQp
import Derived.Test.YtlbhfjbbkkkldaaPx
import Derived.Test.YtlbhfjbbkkkldaaQz
import Derived.Test.YtlbhfjbbkkkldaaF6
import Derived.Deep.CutBlock
/- Contracts over lists of throws: passBeats, valuesOf, selfs, l06Passes, l06Alone. -/
namespace Go.Proofs.Ytlbhfjbbkkkldaa
open Go.RowKit
set_option linter.unusedVariables false

/-- The beats of passes, from beat k on. -/
def passB : Nat → List PT → List Int
  | _, [] => []
  | k, x :: t => (if x.2 then [(k : Int)] else []) ++ passB (k + 1) t
theorem passB_snoc : ∀ (l : List PT) (k : Nat) (x : PT), passB k (l ++ [x]) = passB k l ++ (if x.2 then [((k + l.length : Nat) : Int)] else [])
  | [], k, x => by simp [passB]
  | y :: t, k, x => by
    rw [List.cons_append, passB, passB_snoc t (k + 1) x, passB, List.append_assoc, List.length_cons, show k + 1 + t.length = k + (t.length + 1) by omega]
theorem passB_step {l : List PT} {k : Nat} {x : PT} (h : l[k]? = some x) : passB 0 (l.take (k + 1)) = passB 0 (l.take k) ++ (if x.2 then [(k : Int)] else []) := by
  rw [take_snoc h, passB_snoc, List.length_take, Nat.min_eq_left (by have := (List.getElem?_eq_some_iff.1 h).1; omega), Nat.zero_add]
theorem passB_len : ∀ (l : List PT) (k : Nat), (passB k l).length ≤ l.length
  | [], _ => Nat.le_refl _
  | x :: t, k => by
    have := passB_len t (k + 1)
    rw [passB, List.length_append, List.length_cons]
    split <;> simp <;> omega
theorem passB_nil : ∀ (l : List PT) (k : Nat), (passB k l = [] ↔ l.all (fun x => !x.2) = true)
  | [], _ => by simp [passB]
  | x :: t, k => by
    have := passB_nil t (k + 1)
    rw [passB, List.all_cons]
    cases hx : x.2
    · simpa using this
    · simp
def valsL (l : List PT) : List Int := l.map (·.1)
theorem valsL_len (l : List PT) : (valsL l).length = l.length := by simp [valsL]
theorem valsL_step {l : List PT} {k : Nat} {x : PT} (h : l[k]? = some x) : valsL (l.take (k + 1)) = valsL (l.take k) ++ [x.1] := by
  rw [take_snoc h, valsL, List.map_append]; rfl
theorem alone_step {l : List PT} {k : Nat} {x : PT} (h : l[k]? = some x) : (l.take (k + 1)).all (fun x => !x.2) = ((l.take k).all (fun x => !x.2) && !x.2) := by
  rw [take_snoc h, List.all_append]; simp
theorem alone_stop {l : List PT} {k : Nat} {x : PT} (h : l[k]? = some x) (hx : x.2 = true) : l.all (fun x => !x.2) = false := by
  rw [List.all_eq_false]
  exact ⟨x, List.mem_of_getElem? h, by simp [hx]⟩
set_option maxRecDepth 100000 in
set_option maxHeartbeats 1000000 in
theorem passBeats_any (A : Option Addr) (n c : Nat) (xs : List PT) (w : World) (hn : n ≤ 1099511627775) (hr : Rd w w.heap.size 2 A n (ths xs)) :
    Calls Try.prog 101 #[.slice A n c] w fun e w' => ∃ v, e = .returned v ∧ w'.ownsRow w.heap.size 2 1 v (passB 0 xs).length (ints (passB 0 xs)) ∧ Below w.heap.size w w' := by
  have HL := hid hr.th_len
  have HR := hid hr
  clear hr
  go_enter Try.func101, Try.ntmps101
  go_wp2
  go_loopw [3, 9] (fun v i wr => Hid (∃ (k : Nat) (out : List Int), k ≤ n ∧ i = .int .i64 k ∧ Hid (out = passB 0 (xs.take k)) ∧ out.length ≤ n ∧ wr.ownsRow w.heap.size 2 1 v out.length (ints out) ∧ Below w.heap.size w wr)) (fun _ i _ => n - (intOf i).toNat)
  case atStart => exact hid ⟨0, [], Nat.zero_le _, rfl, rfl, Nat.zero_le _, World.ownsRow_lit _ _ 0 (Nat.le_refl _) (by simp [maxLen]) rfl, (by repeat' (first | exact Below.refl _ _ | (with_reducible assumption) | (with_reducible refine Below.alloc ?_ ?_ _) | (with_reducible refine Below.setCell ?_ ?_ _) | (with_reducible refine Below.drew ?_) | (with_reducible refine below_drewN ?_ _) | (refine Below.trans ?_ (Below.mono (by assumption) ?_)) | (with_reducible exact Nat.le_refl _) | (with_reducible assumption) | (exact Below.size (by assumption)) | omega | go_size | (simp at *; omega)))⟩
  case round =>
    obtain ⟨k, out, hk, rfl, ho, hol, hrow, hb0⟩ := hrel.out
    have hz := hb0.size
    clear hrel
    by_cases hlt : k < n
    · obtain ⟨b, off, x, rfl, hb, hx, hd, c0, c1⟩ := (HR.out.below hb0 (Nat.le_refl _)).th_at hlt
      obtain ⟨x1, x2⟩ := x
      have HS : Hid (out ++ (if x2 then [(k : Int)] else []) = passB 0 (xs.take (k + 1))) := by show _ = _; rw [passB_step hx, ho.out]
      have hkl : out.length ≤ k := by rw [ho.out]; exact Nat.le_trans (passB_len _ _) (by rw [List.length_take]; omega)
      have hrow2 := hrow.alloc (Obj.cells #[.int .i64 x1, .bool x2] 94)
      have hb2 : Below w.heap.size w (wr.alloc (Obj.cells #[.int .i64 x1, .bool x2] 94)) := hb0.alloc hz _
      clear hx hd ho
      cases x2
      · go_wp2
        go_roundw
        case rel => exact hid ⟨k + 1, out, by omega, by go_num, by show _ = _; have := HS.out; simpa using this, hol, hrow2, hb2⟩
        case measure => simp [intOf]; omega
      · go_wp2_with (at_builtin; refine push_intH hrow2 (k : Int) _ Try.underlying43 inf_int rfl rfl _ _ rfl rfl rfl (by simp) (by omega) (by simp; omega) ?_; intro v5 w5 ho5 hb5 hg5)
        go_roundw
        case rel => exact hid ⟨k + 1, out ++ [(k : Int)], by omega, by go_num, HS.out, by rw [List.length_append, List.length_singleton]; omega, ho5, hb2.trans hb5⟩
        case measure => simp [intOf]; omega
    · have HE : Hid (out = passB 0 xs) := by show _ = _; rw [ho.out, List.take_of_length_le (by rw [HL.out]; omega)]
      clear ho
      go_wp2
      go_ret
      exact ⟨_, rfl, by rw [← HE.out]; exact hrow, hb0⟩
set_option maxRecDepth 100000 in
set_option maxHeartbeats 1000000 in
theorem l06Passes_any (A : Option Addr) (n c : Nat) (xs : List PT) (w : World) (hn : n ≤ 1099511627775) (hr : Rd w w.heap.size 2 A n (ths xs)) :
    Calls Try.prog 104 #[.slice A n c] w fun e w' => ∃ v, e = .returned v ∧ w'.ownsRow w.heap.size 2 1 v (passB 0 xs).length (ints (passB 0 xs)) ∧ Below w.heap.size w w' := by
  have HL := hid hr.th_len
  have HR := hid hr
  clear hr
  go_enter Try.func104, Try.ntmps104
  go_wp2
  go_loopw [3, 4] (fun v i wr => Hid (∃ (k : Nat) (out : List Int), k ≤ n ∧ i = .int .i64 k ∧ Hid (out = passB 0 (xs.take k)) ∧ out.length ≤ n ∧ wr.ownsRow w.heap.size 2 1 v out.length (ints out) ∧ Below w.heap.size w wr)) (fun _ i _ => n - (intOf i).toNat)
  case atStart => exact hid ⟨0, [], Nat.zero_le _, rfl, rfl, Nat.zero_le _, World.ownsRow_lit _ _ 0 (Nat.le_refl _) (by simp [maxLen]) rfl, (by repeat' (first | exact Below.refl _ _ | (with_reducible assumption) | (with_reducible refine Below.alloc ?_ ?_ _) | (with_reducible refine Below.setCell ?_ ?_ _) | (with_reducible refine Below.drew ?_) | (with_reducible refine below_drewN ?_ _) | (refine Below.trans ?_ (Below.mono (by assumption) ?_)) | (with_reducible exact Nat.le_refl _) | (with_reducible assumption) | (exact Below.size (by assumption)) | omega | go_size | (simp at *; omega)))⟩
  case round =>
    obtain ⟨k, out, hk, rfl, ho, hol, hrow, hb0⟩ := hrel.out
    have hz := hb0.size
    clear hrel
    by_cases hlt : k < n
    · obtain ⟨b, off, x, rfl, hb, hx, hd, c0, c1⟩ := (HR.out.below hb0 (Nat.le_refl _)).th_at hlt
      obtain ⟨x1, x2⟩ := x
      have HS : Hid (out ++ (if x2 then [(k : Int)] else []) = passB 0 (xs.take (k + 1))) := by show _ = _; rw [passB_step hx, ho.out]
      have hkl : out.length ≤ k := by rw [ho.out]; exact Nat.le_trans (passB_len _ _) (by rw [List.length_take]; omega)
      clear hx hd ho
      cases x2
      · go_wp2
        go_roundw
        case rel => exact hid ⟨k + 1, out, by omega, by go_num, by show _ = _; have := HS.out; simpa using this, hol, hrow, hb0⟩
        case measure => simp [intOf]; omega
      · go_wp2_with (at_builtin; refine push_int hrow (k : Int) _ Try.underlying43 inf_int rfl rfl _ _ rfl rfl rfl (by omega) (by omega) ?_; intro v5 w5 ho5 hb5 hg5)
        go_roundw
        case rel => exact hid ⟨k + 1, out ++ [(k : Int)], by omega, by go_num, HS.out, by rw [List.length_append, List.length_singleton]; omega, ho5, hb0.trans hb5⟩
        case measure => simp [intOf]; omega
    · have HE : Hid (out = passB 0 xs) := by show _ = _; rw [ho.out, List.take_of_length_le (by rw [HL.out]; omega)]
      clear ho
      go_wp2
      go_ret
      exact ⟨_, rfl, by rw [← HE.out]; exact hrow, hb0⟩
set_option maxRecDepth 100000 in
set_option maxHeartbeats 1000000 in
theorem valuesOf_any (A : Option Addr) (n c : Nat) (xs : List PT) (w : World) (hn : n ≤ 1099511627775) (hr : Rd w w.heap.size 2 A n (ths xs)) :
    Calls Try.prog 102 #[.slice A n c] w fun e w' => ∃ v, e = .returned v ∧ w'.ownsRow w.heap.size 2 1 v (valsL xs).length (ints (valsL xs)) ∧ Below w.heap.size w w' := by
  have HL := hid hr.th_len
  have HR := hid hr
  clear hr
  go_enter Try.func102, Try.ntmps102
  go_wp2
  go_loopw [3, 9] (fun v i wr => Hid (∃ (k : Nat) (out : List Int), k ≤ n ∧ i = .int .i64 k ∧ Hid (out = valsL (xs.take k)) ∧ out.length ≤ n ∧ wr.ownsRow w.heap.size 2 1 v out.length (ints out) ∧ Below w.heap.size w wr)) (fun _ i _ => n - (intOf i).toNat)
  case atStart => exact hid ⟨0, [], Nat.zero_le _, rfl, rfl, Nat.zero_le _, World.ownsRow_lit _ _ 0 (Nat.le_refl _) (by simp [maxLen]) rfl, (by repeat' (first | exact Below.refl _ _ | (with_reducible assumption) | (with_reducible refine Below.alloc ?_ ?_ _) | (with_reducible refine Below.setCell ?_ ?_ _) | (with_reducible refine Below.drew ?_) | (with_reducible refine below_drewN ?_ _) | (refine Below.trans ?_ (Below.mono (by assumption) ?_)) | (with_reducible exact Nat.le_refl _) | (with_reducible assumption) | (exact Below.size (by assumption)) | omega | go_size | (simp at *; omega)))⟩
  case round =>
    obtain ⟨k, out, hk, rfl, ho, hol, hrow, hb0⟩ := hrel.out
    have hz := hb0.size
    clear hrel
    by_cases hlt : k < n
    · obtain ⟨b, off, x, rfl, hb, hx, hd, c0, c1⟩ := (HR.out.below hb0 (Nat.le_refl _)).th_at hlt
      obtain ⟨x1, x2⟩ := x
      have HS : Hid (out ++ [x1] = valsL (xs.take (k + 1))) := by show _ = _; rw [valsL_step hx, ho.out]
      have hkl : out.length ≤ k := by rw [ho.out, valsL_len, List.length_take]; omega
      have hrow2 := hrow.alloc (Obj.cells #[.int .i64 x1, .bool x2] 94)
      have hb2 : Below w.heap.size w (wr.alloc (Obj.cells #[.int .i64 x1, .bool x2] 94)) := hb0.alloc hz _
      clear hx hd ho
      go_wp2_with (at_builtin; refine push_intH hrow2 x1 _ Try.underlying43 inf_int rfl rfl _ _ rfl rfl rfl (by simp) (by omega) (by simp; omega) ?_; intro v5 w5 ho5 hb5 hg5)
      go_roundw
      case rel => exact hid ⟨k + 1, out ++ [x1], by omega, by go_num, HS.out, by rw [List.length_append, List.length_singleton]; omega, ho5, hb2.trans hb5⟩
      case measure => simp [intOf]; omega
    · have HE : Hid (out = valsL xs) := by show _ = _; rw [ho.out, List.take_of_length_le (by rw [HL.out]; omega)]
      clear ho
      go_wp2
      go_ret
      exact ⟨_, rfl, by rw [← HE.out]; exact hrow, hb0⟩
set_option maxRecDepth 100000 in
theorem selfs_any (A : Option Addr) (n c : Nat) (xs : List Int) (w : World) (hn : n ≤ 1099511627775) (hr : Rd w w.heap.size 1 A n (ints xs)) :
    Calls Try.prog 98 #[.slice A n c] w fun e w' => ∃ v, e = .returned v ∧ w'.ownsRow w.heap.size 94 2 v (selfs xs).length (ths (selfs xs)) ∧ Below w.heap.size w w' := by
  have HL := hid hr.len
  have HR := hid hr
  clear hr
  go_enter Try.func98, Try.ntmps98
  go_wp2
  go_loopw [3, 9] (fun v i wr => Hid (∃ (k : Nat) (out : List PT), k ≤ n ∧ i = .int .i64 k ∧ Hid (out = selfs (xs.take k)) ∧ out.length ≤ n ∧ wr.ownsRow w.heap.size 94 2 v out.length (ths out) ∧ Below w.heap.size w wr)) (fun _ i _ => n - (intOf i).toNat)
  case atStart => exact hid ⟨0, [], Nat.zero_le _, rfl, rfl, Nat.zero_le _, World.ownsRow_lit _ _ 0 (Nat.le_refl _) (by simp [maxLen]) rfl, (by repeat' (first | exact Below.refl _ _ | (with_reducible assumption) | (with_reducible refine Below.alloc ?_ ?_ _) | (with_reducible refine Below.setCell ?_ ?_ _) | (with_reducible refine Below.drew ?_) | (with_reducible refine below_drewN ?_ _) | (refine Below.trans ?_ (Below.mono (by assumption) ?_)) | (with_reducible exact Nat.le_refl _) | (with_reducible assumption) | (exact Below.size (by assumption)) | omega | go_size | (simp at *; omega)))⟩
  case round =>
    obtain ⟨k, out, hk, rfl, ho, hol, hrow, hb0⟩ := hrel.out
    have hz := hb0.size
    clear hrel
    by_cases hlt : k < n
    · obtain ⟨b, off, x, rfl, hb, hx, hd, c0⟩ := (HR.out.below hb0 (Nat.le_refl _)).at_ hlt
      have HS : Hid (out ++ [(x, false)] = selfs (xs.take (k + 1))) := by show _ = _; rw [selfs_step hx, ho.out]
      have hl2 : Hid (out.length = k) := by show _ = _; rw [ho.out, selfs_len, List.length_take, HL.out]; omega
      clear hx hd ho
      go_wp2_with (at_builtin; refine push_th Try.underlying33 inf_pt (by omega) hrow x false _ rfl _ _ rfl rfl rfl (by first | rfl | simp) (by omega) (by omega) ?_; intro v5 w5 ho5 hb5 hg5)
      go_roundw
      case rel => exact hid ⟨k + 1, out ++ [(x, false)], by omega, by go_num, HS, by rw [List.length_append, List.length_singleton, hl2.out]; omega, ho5, (by repeat' (first | exact Below.refl _ _ | (with_reducible assumption) | (with_reducible refine Below.alloc ?_ ?_ _) | (with_reducible refine Below.setCell ?_ ?_ _) | (with_reducible refine Below.drew ?_) | (with_reducible refine below_drewN ?_ _) | (refine Below.trans ?_ (Below.mono (by assumption) ?_)) | (with_reducible exact Nat.le_refl _) | (with_reducible assumption) | (exact Below.size (by assumption)) | omega | go_size | (simp at *; omega)))⟩
      case measure => simp [intOf]; omega
    · have HE : Hid (out = selfs xs) := by show _ = _; rw [ho.out, List.take_of_length_le (by rw [HL.out]; omega)]
      clear ho
      go_wp2
      go_ret
      exact ⟨_, rfl, by rw [← HE.out]; exact hrow, hb0⟩
/-- Values, or nothing. -/
def AlRes (B : Nat) (xs : List PT) (e : Ending) (w : World) : Prop := (xs.all (fun x => !x.2) = false ∧ e = .returned (.tuple #[.slice none 0 0, .bool false])) ∨ (xs.all (fun x => !x.2) = true ∧ ∃ v, e = .returned (.tuple #[v, .bool true]) ∧ w.ownsRow B 2 1 v (valsL xs).length (ints (valsL xs)))
set_option maxRecDepth 100000 in
set_option maxHeartbeats 1000000 in
theorem l06Alone_any (A : Option Addr) (n c : Nat) (xs : List PT) (w : World) (hn : n ≤ 1099511627775) (hr : Rd w w.heap.size 2 A n (ths xs)) :
    Calls Try.prog 103 #[.slice A n c] w fun e w' => AlRes w.heap.size xs e w' ∧ Below w.heap.size w w' := by
  have HL := hid hr.th_len
  have HR := hid hr
  clear hr
  go_enter Try.func103, Try.ntmps103
  go_wp2
  go_loopw [4, 5] (fun v i wr => Hid (∃ (k : Nat) (out : List Int), k ≤ n ∧ i = .int .i64 k ∧ Hid (out = valsL (xs.take k) ∧ (xs.take k).all (fun x => !x.2) = true) ∧ out.length ≤ n ∧ wr.ownsRow w.heap.size 2 1 v out.length (ints out) ∧ Below w.heap.size w wr)) (fun _ i _ => n - (intOf i).toNat)
  case atStart => exact hid ⟨0, [], Nat.zero_le _, rfl, ⟨rfl, rfl⟩, Nat.zero_le _, World.ownsRow_lit _ _ 0 (Nat.le_refl _) (by simp [maxLen]) rfl, (by repeat' (first | exact Below.refl _ _ | (with_reducible assumption) | (with_reducible refine Below.alloc ?_ ?_ _) | (with_reducible refine Below.setCell ?_ ?_ _) | (with_reducible refine Below.drew ?_) | (with_reducible refine below_drewN ?_ _) | (refine Below.trans ?_ (Below.mono (by assumption) ?_)) | (with_reducible exact Nat.le_refl _) | (with_reducible assumption) | (exact Below.size (by assumption)) | omega | go_size | (simp at *; omega)))⟩
  case round =>
    obtain ⟨k, out, hk, rfl, ho, hol, hrow, hb0⟩ := hrel.out
    have hz := hb0.size
    clear hrel
    by_cases hlt : k < n
    · obtain ⟨b, off, x, rfl, hb, hx, hd, c0, c1⟩ := (HR.out.below hb0 (Nat.le_refl _)).th_at hlt
      obtain ⟨x1, x2⟩ := x
      have hkl : out.length ≤ k := by rw [ho.out.1, valsL_len, List.length_take]; omega
      cases x2
      · have HS : Hid (out ++ [x1] = valsL (xs.take (k + 1)) ∧ (xs.take (k + 1)).all (fun x => !x.2) = true) := by
          show _ ∧ _
          rw [valsL_step hx, ho.out.1, alone_step hx, ho.out.2]; exact ⟨rfl, rfl⟩
        clear hx hd ho
        go_wp2_with (at_builtin; refine push_int hrow x1 _ Try.underlying43 inf_int rfl rfl _ _ rfl rfl rfl (by omega) (by omega) ?_; intro v5 w5 ho5 hb5 hg5)
        go_roundw
        case rel => exact hid ⟨k + 1, out ++ [x1], by omega, by go_num, HS.out, by rw [List.length_append, List.length_singleton]; omega, ho5, hb0.trans hb5⟩
        case measure => simp [intOf]; omega
      · have HF := hid (alone_stop hx rfl)
        clear hx hd ho
        go_wp2
        go_ret2
        exact ⟨.inl ⟨HF.out, rfl⟩, hb0⟩
    · have HE : Hid (out = valsL xs ∧ xs.all (fun x => !x.2) = true) := by
        have := ho.out
        rw [List.take_of_length_le (by rw [HL.out]; omega)] at this
        exact this
      clear ho
      go_wp2
      go_ret2
      exact ⟨.inr ⟨HE.out.2, _, rfl, by rw [← HE.out.1]; exact hrow⟩, hb0⟩
end Go.Proofs.Ytlbhfjbbkkkldaa

/- Contracts of impl's TogetherOf, ApartOf and PassesOf, and of the reference's. -/
namespace Go.Proofs.Ytlbhfjbbkkkldaa
open Go.RowKit
set_option linter.unusedVariables false

set_option maxRecDepth 100000 in
set_option maxHeartbeats 4000000 in
theorem TogetherOf_any (A A2 : Option Addr) (n c m d : Nat) (a b : List Int) (w : World) (hn : n ≤ 1099511627775) (hm : m ≤ 1099511627775) (hr : Rd w w.heap.size 1 A n (ints a)) (hs : Rd w w.heap.size 1 A2 m (ints b)) :
    Calls Try.prog 27 #[.slice A n c, .slice A2 m d] w fun e w' => TgRes w.heap.size (rTogetherOf a b) e w' ∧ Below w.heap.size w w' := by
  have l1 := hr.len
  have l2 := hs.len
  have hbx : Below w.heap.size w (w.alloc (Obj.cells #[.slice none 0 0, .slice none 0 0] 35)) := (by repeat' (first | exact Below.refl _ _ | (with_reducible assumption) | (with_reducible refine Below.alloc ?_ ?_ _) | (with_reducible refine Below.setCell ?_ ?_ _) | (with_reducible refine Below.drew ?_) | (with_reducible refine below_drewN ?_ _) | (refine Below.trans ?_ (Below.mono (by assumption) ?_)) | (with_reducible exact Nat.le_refl _) | (with_reducible assumption) | (exact Below.size (by assumption)) | omega | go_size | (simp at *; omega)))
  have hX := Bx.new w 35 #[.slice none 0 0, .slice none 0 0]
  have hV1 := ValidPattern_any A n c a _ (by omega) ((hr.below hbx (Nat.le_refl _)).more hbx.size)
  have hV2 := hid (fun (w9 : World) (b9 : Below w.heap.size w w9) => ValidPattern_any A2 m d b w9 (by omega) ((hs.below b9 (Nat.le_refl _)).more b9.size))
  have hS1 := hid (fun (w9 : World) (b9 : Below w.heap.size w w9) => selfs_any A n c a w9 hn ((hr.below b9 (Nat.le_refl _)).more b9.size))
  have hS2 := hid (fun (w9 : World) (b9 : Below w.heap.size w w9) => selfs_any A2 m d b w9 hm ((hs.below b9 (Nat.le_refl _)).more b9.size))
  clear hr hs
  cases ha : okP a with
  | false =>
    have HZ : Hid (rTogetherOf a b = (([], []), 1)) := by show _ = _; rw [rTogetherOf, ha]; rfl
    rw [ha] at hV1
    have hV1 := hid hV1
    clear ha l1 l2
    go_enter Try.func27, Try.ntmps27
    go_wp2_with fail
    refine hV1.out.mono ?_
    rintro e w1 ⟨rfl, hb1⟩
    have hX1 := hX.below hb1 hX.lt
    have z1 := hb1.size
    have hgr : w.heap.size < w1.heap.size := by simp at z1; omega
    have e0 := hX1.cell 0
    have e1 := hX1.cell 1
    have f0 := hX1.frozen 0
    have f1 := hX1.frozen 1
    replace e0 : w1.cell? ⟨w.heap.size, 0, none⟩ = some (.slice none 0 0) := e0
    replace e1 : w1.cell? ⟨w.heap.size, 1, none⟩ = some (.slice none 0 0) := e1
    have hB1 : Below w.heap.size w w1 := (by repeat' (first | exact Below.refl _ _ | (with_reducible assumption) | (with_reducible refine Below.alloc ?_ ?_ _) | (with_reducible refine Below.setCell ?_ ?_ _) | (with_reducible refine Below.drew ?_) | (with_reducible refine below_drewN ?_ _) | (refine Below.trans ?_ (Below.mono (by assumption) ?_)) | (with_reducible exact Nat.le_refl _) | (with_reducible assumption) | (exact Below.size (by assumption)) | omega | go_size | (simp at *; omega)))
    clear hX hX1 hb1
    go_wp2
    refine bodyPost_ret (v := .tuple #[.agg #[.slice none 0 0, .slice none 0 0], .int .i64 1]) ?_ rfl ?_
    · simp (maxDischargeDepth := 8) [results, Try.results27, go_sem, *]
    exact ⟨by rw [HZ.out]; exact TgRes.no _ _ _, (by repeat' (first | exact Below.refl _ _ | (with_reducible assumption) | (with_reducible refine Below.alloc ?_ ?_ _) | (with_reducible refine Below.setCell ?_ ?_ _) | (with_reducible refine Below.drew ?_) | (with_reducible refine below_drewN ?_ _) | (refine Below.trans ?_ (Below.mono (by assumption) ?_)) | (with_reducible exact Nat.le_refl _) | (with_reducible assumption) | (exact Below.size (by assumption)) | omega | go_size | (simp at *; omega)))⟩
  | true =>
    rw [ha] at hV1
    have hV1 := hid hV1
    have HA := hid ha
    clear ha
    go_enter Try.func27, Try.ntmps27
    go_wp2_with fail
    refine hV1.out.mono ?_
    rintro e w1 ⟨rfl, hb1⟩
    have hX1 := hX.below hb1 hX.lt
    have z1 := hb1.size
    have hB1 : Below w.heap.size w w1 := (by repeat' (first | exact Below.refl _ _ | (with_reducible assumption) | (with_reducible refine Below.alloc ?_ ?_ _) | (with_reducible refine Below.setCell ?_ ?_ _) | (with_reducible refine Below.drew ?_) | (with_reducible refine below_drewN ?_ _) | (refine Below.trans ?_ (Below.mono (by assumption) ?_)) | (with_reducible exact Nat.le_refl _) | (with_reducible assumption) | (exact Below.size (by assumption)) | omega | go_size | (simp at *; omega)))
    have hV2 := hV2.out w1 hB1
    clear hb1 hX hV1
    cases hb : okP b with
    | false =>
      have HZ : Hid (rTogetherOf a b = (([], []), 1)) := by show _ = _; rw [rTogetherOf, HA.out, hb]; rfl
      rw [hb] at hV2
      have hV2 := hid hV2
      clear hb l1 l2
      go_wp2_with fail
      refine hV2.out.mono ?_
      rintro e w2 ⟨rfl, hb2⟩
      have hX2 := hX1.below hb2 hX1.lt
      have z2 := hb2.size
      have hgr : w.heap.size < w2.heap.size := by simp at z1; omega
      have e0 := hX2.cell 0
      have e1 := hX2.cell 1
      have f0 := hX2.frozen 0
      have f1 := hX2.frozen 1
      replace e0 : w2.cell? ⟨w.heap.size, 0, none⟩ = some (.slice none 0 0) := e0
      replace e1 : w2.cell? ⟨w.heap.size, 1, none⟩ = some (.slice none 0 0) := e1
      have hB2 : Below w.heap.size w w2 := (by repeat' (first | exact Below.refl _ _ | (with_reducible assumption) | (with_reducible refine Below.alloc ?_ ?_ _) | (with_reducible refine Below.setCell ?_ ?_ _) | (with_reducible refine Below.drew ?_) | (with_reducible refine below_drewN ?_ _) | (refine Below.trans ?_ (Below.mono (by assumption) ?_)) | (with_reducible exact Nat.le_refl _) | (with_reducible assumption) | (exact Below.size (by assumption)) | omega | go_size | (simp at *; omega)))
      clear hX1 hX2 hb2
      go_wp2
      refine bodyPost_ret (v := .tuple #[.agg #[.slice none 0 0, .slice none 0 0], .int .i64 1]) ?_ rfl ?_
      · simp (maxDischargeDepth := 8) [results, Try.results27, go_sem, *]
      exact ⟨by rw [HZ.out]; exact TgRes.no _ _ _, (by repeat' (first | exact Below.refl _ _ | (with_reducible assumption) | (with_reducible refine Below.alloc ?_ ?_ _) | (with_reducible refine Below.setCell ?_ ?_ _) | (with_reducible refine Below.drew ?_) | (with_reducible refine below_drewN ?_ _) | (refine Below.trans ?_ (Below.mono (by assumption) ?_)) | (with_reducible exact Nat.le_refl _) | (with_reducible assumption) | (exact Below.size (by assumption)) | omega | go_size | (simp at *; omega)))⟩
    | true =>
      rw [hb] at hV2
      have hV2 := hid hV2
      have HRT : rTogetherOf a b = (if a.length = b.length then (if a.length ≤ 8 then ((selfs a, selfs b), 0) else (([], []), 5)) else (([], []), 6)) := by rw [rTogetherOf, HA.out, hb]; rfl
      rw [l1, l2] at HRT
      clear hb
      go_wp2_with fail
      refine hV2.out.mono ?_
      rintro e w2 ⟨rfl, hb2⟩
      have hX2 := hX1.below hb2 hX1.lt
      have z2 := hb2.size
      have hgr : w.heap.size < w2.heap.size := by simp at z1; omega
      have e0 := hX2.cell 0
      have e1 := hX2.cell 1
      have f0 := hX2.frozen 0
      have f1 := hX2.frozen 1
      replace e0 : w2.cell? ⟨w.heap.size, 0, none⟩ = some (.slice none 0 0) := e0
      replace e1 : w2.cell? ⟨w.heap.size, 1, none⟩ = some (.slice none 0 0) := e1
      have hB2 : Below w.heap.size w w2 := (by repeat' (first | exact Below.refl _ _ | (with_reducible assumption) | (with_reducible refine Below.alloc ?_ ?_ _) | (with_reducible refine Below.setCell ?_ ?_ _) | (with_reducible refine Below.drew ?_) | (with_reducible refine below_drewN ?_ _) | (refine Below.trans ?_ (Below.mono (by assumption) ?_)) | (with_reducible exact Nat.le_refl _) | (with_reducible assumption) | (exact Below.size (by assumption)) | omega | go_size | (simp at *; omega)))
      clear hX1 hb2 l1 l2 hV2
      by_cases hnm : n = m
      · rw [if_pos hnm] at HRT
        subst hnm
        by_cases h8 : n ≤ 8
        · rw [if_pos h8] at HRT
          have HZ := hid HRT
          have hq : ¬ (8 : Int) < (n : Int) := by omega
          have hS1 := hid (hS1.out w2 hB2)
          clear HRT
          go_wp2_with fail
          refine hS1.out.mono ?_
          rintro e w3 ⟨v3, rfl, ho3, hb3⟩
          have hB3 := bchain hB2 hb3
          have hX3 := hX2.below hb3 hX2.lt
          have z3 := hb3.size
          obtain ⟨A3, c3, rfl, hA3⟩ := own_formA ho3
          have hS2 := hid (hS2.out w3 hB3)
          clear e0 e1 f0 f1 hX2 hS1
          go_wp2_with fail
          refine hS2.out.mono ?_
          rintro e w4 ⟨v4, rfl, ho4, hb4⟩
          have hB4 := bchain hB3 hb4
          have hX4 := hX3.below hb4 hX3.lt
          obtain ⟨A4, c4, rfl, hA4⟩ := own_formA ho4
          have z4 := hb4.size
          have hap : ∀ g, A3 = some ⟨g, 0, none⟩ → A4 = some ⟨g, 0, none⟩ → False := fun g h h' => by
            subst h h'
            have h1 := (ho3.lt g rfl).2
            have h2 := (ho4.lt g rfl).1
            omega
          replace ho3 := own_below ho3 hb4
          have e0 := hX4.cell 0
          have e1 := hX4.cell 1
          have f0 := hX4.frozen 0
          have f1 := hX4.frozen 1
          replace e0 : w4.cell? ⟨w.heap.size, 0, none⟩ = some (.slice none 0 0) := e0
          replace e1 : w4.cell? ⟨w.heap.size, 1, none⟩ = some (.slice none 0 0) := e1
          have HO3 := hid ho3
          have HO4 := hid ho4
          have HAP := hid hap
          clear hX3 hX4 hS2 ho3 ho4 hap hb3 hb4
          go_wp2
          refine bodyPost_ret (v := .tuple #[.agg #[.slice A3 (selfs a).length c3, .slice A4 (selfs b).length c4], .int .i64 0]) ?_ rfl ?_
          · simp (maxDischargeDepth := 8) [results, Try.results27, go_sem, *]
          refine ⟨?_, (by repeat' (first | exact Below.refl _ _ | (with_reducible assumption) | (with_reducible refine Below.alloc ?_ ?_ _) | (with_reducible refine Below.setCell ?_ ?_ _) | (with_reducible refine Below.drew ?_) | (with_reducible refine below_drewN ?_ _) | (refine Below.trans ?_ (Below.mono (by assumption) ?_)) | (with_reducible exact Nat.le_refl _) | (with_reducible assumption) | (exact Below.size (by assumption)) | omega | go_size | (simp at *; omega)))⟩
          rw [HZ.out]
          exact ⟨A3, c3, A4, c4, hA3, hA4, rfl, own_more (own_setq (own_setq HO3.out (p := ⟨w.heap.size, 0, none⟩) (by show w.heap.size < _; omega) _) (p := ⟨w.heap.size, 1, none⟩) (by show w.heap.size < _; omega) _) (by omega), own_more (own_setq (own_setq HO4.out (p := ⟨w.heap.size, 0, none⟩) (by show w.heap.size < _; omega) _) (p := ⟨w.heap.size, 1, none⟩) (by show w.heap.size < _; omega) _) (by omega), HAP.out⟩
        · rw [if_neg h8] at HRT
          have HZ := hid HRT
          have hq : (8 : Int) < (n : Int) := by omega
          clear HRT
          go_wp2
          refine bodyPost_ret (v := .tuple #[.agg #[.slice none 0 0, .slice none 0 0], .int .i64 5]) ?_ rfl ?_
          · simp (maxDischargeDepth := 8) [results, Try.results27, go_sem, *]
          exact ⟨by rw [HZ.out]; exact TgRes.no _ _ _, (by repeat' (first | exact Below.refl _ _ | (with_reducible assumption) | (with_reducible refine Below.alloc ?_ ?_ _) | (with_reducible refine Below.setCell ?_ ?_ _) | (with_reducible refine Below.drew ?_) | (with_reducible refine below_drewN ?_ _) | (refine Below.trans ?_ (Below.mono (by assumption) ?_)) | (with_reducible exact Nat.le_refl _) | (with_reducible assumption) | (exact Below.size (by assumption)) | omega | go_size | (simp at *; omega)))⟩
      · rw [if_neg hnm] at HRT
        have HZ := hid HRT
        have hq : ((n : Int) != (m : Int)) = true := by simp; omega
        clear HRT hnm
        go_wp2
        refine bodyPost_ret (v := .tuple #[.agg #[.slice none 0 0, .slice none 0 0], .int .i64 6]) ?_ rfl ?_
        · simp (maxDischargeDepth := 8) [results, Try.results27, go_sem, *]
        exact ⟨by rw [HZ.out]; exact TgRes.no _ _ _, (by repeat' (first | exact Below.refl _ _ | (with_reducible assumption) | (with_reducible refine Below.alloc ?_ ?_ _) | (with_reducible refine Below.setCell ?_ ?_ _) | (with_reducible refine Below.drew ?_) | (with_reducible refine below_drewN ?_ _) | (refine Below.trans ?_ (Below.mono (by assumption) ?_)) | (with_reducible exact Nat.le_refl _) | (with_reducible assumption) | (exact Below.size (by assumption)) | omega | go_size | (simp at *; omega)))⟩
end Go.Proofs.Ytlbhfjbbkkkldaa

/- Contracts of PassesOf and ApartOf, impl's and the reference's. -/
namespace Go.Proofs.Ytlbhfjbbkkkldaa
open Go.RowKit
set_option linter.unusedVariables false

def rPassesOf (p : Psg) : (List Int × List Int) × Int := if psOk p then ((passB 0 p.1, passB 0 p.2), 0) else (([], []), 1)
def rApartOf (p : Psg) : (List Int × List Int) × Int := if psOk p then (if p.1.all (fun x => !x.2) && p.2.all (fun x => !x.2) then ((valsL p.1, valsL p.2), 0) else (([], []), 10)) else (([], []), 1)
/-- Two lists of the call's own and a code. -/
def PsRes (B : Nat) (r : (List Int × List Int) × Int) (e : Ending) (w : World) : Prop := ∃ A1 c1 A2 c2, e = .returned (.tuple #[.slice A1 r.1.1.length c1, .slice A2 r.1.2.length c2, .int .i64 r.2]) ∧ w.ownsRow B 2 1 (.slice A1 r.1.1.length c1) r.1.1.length (ints r.1.1) ∧ w.ownsRow B 2 1 (.slice A2 r.1.2.length c2) r.1.2.length (ints r.1.2)
theorem PsRes.no (B : Nat) (w : World) (x : Int) : PsRes B (([], []), x) (.returned (.tuple #[.slice none 0 0, .slice none 0 0, .int .i64 x])) w := ⟨none, 0, none, 0, rfl, World.ownsRow_nil _ _ _ _, World.ownsRow_nil _ _ _ _⟩
theorem PsRes.mk {B B' : Nat} {w : World} {A1 A2 : Option Addr} {c1 c2 : Nat} {a b : List Int} {x : Int} (hB : B ≤ B') (h1 : w.ownsRow B' 2 1 (.slice A1 a.length c1) a.length (ints a)) (h2 : w.ownsRow B' 2 1 (.slice A2 b.length c2) b.length (ints b)) : PsRes B ((a, b), x) (.returned (.tuple #[.slice A1 a.length c1, .slice A2 b.length c2, .int .i64 x])) w := ⟨A1, c1, A2, c2, rfl, own_more h1 hB, own_more h2 hB⟩
theorem sum_pos (p : Psg) : (0 < (passB 0 p.1).length + (passB 0 p.2).length) ↔ ¬ (p.1.all (fun x => !x.2) && p.2.all (fun x => !x.2)) = true := by
  rw [Bool.and_eq_true, ← passB_nil p.1 0, ← passB_nil p.2 0]
  cases passB 0 p.1 <;> cases passB 0 p.2 <;> simp <;> omega
set_option maxRecDepth 100000 in
set_option maxHeartbeats 4000000 in
theorem PassesOf_any (A B : Option Addr) (n c m d : Nat) (p : Psg) (w : World) (hn : n ≤ 1099511627775) (hm : m ≤ 1099511627775) (hr : Rd w w.heap.size 2 A n (ths p.1)) (hs : Rd w w.heap.size 2 B m (ths p.2)) :
    Calls Try.prog 33 #[.agg #[.slice A n c, .slice B m d]] w fun e w' => PsRes w.heap.size (rPassesOf p) e w' ∧ Below w.heap.size w w' := by
  have l1 := hr.th_len
  have l2 := hs.th_len
  have hbx : Below w.heap.size w (w.alloc (Obj.cells #[.slice A n c, .slice B m d] 35)) := (by repeat' (first | exact Below.refl _ _ | (with_reducible assumption) | (with_reducible refine Below.alloc ?_ ?_ _) | (with_reducible refine Below.setCell ?_ ?_ _) | (with_reducible refine Below.drew ?_) | (with_reducible refine below_drewN ?_ _) | (refine Below.trans ?_ (Below.mono (by assumption) ?_)) | (with_reducible exact Nat.le_refl _) | (with_reducible assumption) | (exact Below.size (by assumption)) | omega | go_size | (simp at *; omega)))
  have hX := Bx.new w 35 #[.slice A n c, .slice B m d]
  have hV := ValidPassing_any A B n c m d p (w.alloc (Obj.cells #[.slice A n c, .slice B m d] 35)) (by omega) (by omega) ((hr.below hbx (Nat.le_refl _)).more hbx.size) ((hs.below hbx (Nat.le_refl _)).more hbx.size)
  have HR := hid (fun (w9 : World) (b9 : Below w.heap.size w w9) => (hr.below b9 (Nat.le_refl _)).more b9.size)
  have HS := hid (fun (w9 : World) (b9 : Below w.heap.size w w9) => (hs.below b9 (Nat.le_refl _)).more b9.size)
  clear hr hs
  cases hp : psOk p with
  | false =>
    have HZ : Hid (rPassesOf p = (([], []), 1)) := by show _ = _; rw [rPassesOf, hp]; rfl
    rw [hp] at hV
    have hV := hid hV
    clear hp l1 l2 hX
    go_enter Try.func33, Try.ntmps33
    go_wp2_with fail
    refine hV.out.mono ?_
    rintro e w1 ⟨rfl, hb1⟩
    go_wp2
    go_ret3
    exact ⟨by rw [HZ.out]; exact PsRes.no _ _ _, (by repeat' (first | exact Below.refl _ _ | (with_reducible assumption) | (with_reducible refine Below.alloc ?_ ?_ _) | (with_reducible refine Below.setCell ?_ ?_ _) | (with_reducible refine Below.drew ?_) | (with_reducible refine below_drewN ?_ _) | (refine Below.trans ?_ (Below.mono (by assumption) ?_)) | (with_reducible exact Nat.le_refl _) | (with_reducible assumption) | (exact Below.size (by assumption)) | omega | go_size | (simp at *; omega)))⟩
  | true =>
    rw [hp] at hV
    have hV := hid hV
    have h18 := psSh_iff.1 (psOk_iff.1 hp).1
    have hn8 : n ≤ 8 := by omega
    have hm8 : m ≤ 8 := by omega
    have HP := hid hp
    have HL1 := hid l1
    have HL2 := hid l2
    clear hp h18 l1 l2
    go_enter Try.func33, Try.ntmps33
    go_wp2_with fail
    refine hV.out.mono ?_
    rintro e w1 ⟨rfl, hb1⟩
    have hB1 : Below w.heap.size w w1 := (by repeat' (first | exact Below.refl _ _ | (with_reducible assumption) | (with_reducible refine Below.alloc ?_ ?_ _) | (with_reducible refine Below.setCell ?_ ?_ _) | (with_reducible refine Below.drew ?_) | (with_reducible refine below_drewN ?_ _) | (refine Below.trans ?_ (Below.mono (by assumption) ?_)) | (with_reducible exact Nat.le_refl _) | (with_reducible assumption) | (exact Below.size (by assumption)) | omega | go_size | (simp at *; omega)))
    have hX1 := hX.below hb1 hX.lt
    have c0 : w1.cell? ⟨w.heap.size, 0, none⟩ = some (.slice A n c) := hX1.cell 0
    have c1 : w1.cell? ⟨w.heap.size, 1, none⟩ = some (.slice B m d) := hX1.cell 1
    have hgw : w.heap.size < w1.heap.size := hX1.lt
    clear hX hX1 hV hb1
    have HZ : Hid (rPassesOf p = ((passB 0 p.1, passB 0 p.2), 0)) := by show _ = _; rw [rPassesOf, if_pos HP.out]
    go_wp2
    have hS := hid (fun (w9 : World) (b : Below w1.heap.size w1 w9) => (⟨b, (b.cell (p := ⟨w.heap.size, 0, none⟩) hgw).trans c0, (b.cell (p := ⟨w.heap.size, 1, none⟩) hgw).trans c1⟩ : Below w1.heap.size w1 w9 ∧ w9.cell? ⟨w.heap.size, 0, none⟩ = some (.slice A n c) ∧ w9.cell? ⟨w.heap.size, 1, none⟩ = some (.slice B m d)))
    have hT1 := hid (fun (w9 : World) (b : Below w1.heap.size w1 w9) => (passBeats_any A n c p.1 w9 (by omega) ((HR.out w9 (bchain hB1 b)))).mono (fun e w' h => show ∃ A5 c5, e = .returned (.slice A5 (passB 0 p.1).length c5) ∧ w'.ownsRow w9.heap.size 2 1 (.slice A5 (passB 0 p.1).length c5) (passB 0 p.1).length (ints (passB 0 p.1)) ∧ Below w9.heap.size w9 w' from by
      obtain ⟨v, rfl, ho, hb⟩ := h
      obtain ⟨A5, c5, rfl⟩ := own_form ho
      exact ⟨A5, c5, rfl, ho, hb⟩))
    have hT2 := hid (fun (w9 : World) (b : Below w1.heap.size w1 w9) => (passBeats_any B m d p.2 w9 (by omega) ((HS.out w9 (bchain hB1 b)))).mono (fun e w' h => show ∃ A5 c5, e = .returned (.slice A5 (passB 0 p.2).length c5) ∧ w'.ownsRow w9.heap.size 2 1 (.slice A5 (passB 0 p.2).length c5) (passB 0 p.2).length (ints (passB 0 p.2)) ∧ Below w9.heap.size w9 w' from by
      obtain ⟨v, rfl, ho, hb⟩ := h
      obtain ⟨A5, c5, rfl⟩ := own_form ho
      exact ⟨A5, c5, rfl, ho, hb⟩))
    have hBd : Below w1.heap.size w1 w1.drew := (by repeat' (first | exact Below.refl _ _ | (with_reducible assumption) | (with_reducible refine Below.alloc ?_ ?_ _) | (with_reducible refine Below.setCell ?_ ?_ _) | (with_reducible refine Below.drew ?_) | (with_reducible refine below_drewN ?_ _) | (refine Below.trans ?_ (Below.mono (by assumption) ?_)) | (with_reducible exact Nat.le_refl _) | (with_reducible assumption) | (exact Below.size (by assumption)) | omega | go_size | (simp at *; omega)))
    have hzd : w1.heap.size ≤ w1.drew.heap.size := Nat.le_refl _
    first
      | (go_region_held3 (fun w' => Below w1.heap.size w1 w' ∧ w'.cell? ⟨w.heap.size, 0, none⟩ = some (.slice A n c) ∧ w'.cell? ⟨w.heap.size, 1, none⟩ = some (.slice B m d)) (with_reducible exact hS.out _ (by assumption)) (first | (go_at_call 101; with_reducible refine (hT1.out _ (by assumption)).mono ?_; rintro e w5 ⟨A5, c5, rfl, ho5, hb5⟩; (try replace ho6 := own_below ho6 hb5); have hB5 := bchain (show Below w1.heap.size w1 _ by assumption) hb5) | (go_at_call 101; with_reducible refine (hT2.out _ (by assumption)).mono ?_; rintro e w6 ⟨A6, c6, rfl, ho6, hb6⟩; (try replace ho5 := own_below ho5 hb6); have hB6 := bchain (show Below w1.heap.size w1 _ by assumption) hb6)))
      | fail
    all_goals
      have hz1 : w.heap.size ≤ w1.heap.size := hB1.size
      have ho5' := own_more ho5 (show w.heap.size ≤ _ by first | exact Nat.le_of_lt hgw | (have := hB5.size; omega) | (have := hB6.size; omega))
      have ho6' := own_more ho6 (show w.heap.size ≤ _ by first | exact Nat.le_of_lt hgw | (have := hB5.size; omega) | (have := hB6.size; omega))
      go_wp2
      go_ret3
      refine ⟨?_, bchain hB1 (by assumption)⟩
      rw [HZ.out]
      exact PsRes.mk (Nat.le_refl _) ho5' ho6'
set_option maxRecDepth 100000 in
set_option maxHeartbeats 4000000 in
theorem specPassesOf_any (A B : Option Addr) (n c m d : Nat) (p : Psg) (w : World) (hn : n ≤ 1099511627775) (hm : m ≤ 1099511627775) (hr : Rd w w.heap.size 2 A n (ths p.1)) (hs : Rd w w.heap.size 2 B m (ths p.2)) :
    Calls Try.prog 34 #[.agg #[.slice A n c, .slice B m d]] w fun e w' => PsRes w.heap.size (rPassesOf p) e w' ∧ Below w.heap.size w w' := by
  have l1 := hr.th_len
  have l2 := hs.th_len
  have hbx : Below w.heap.size w (w.alloc (Obj.cells #[.slice A n c, .slice B m d] 35)) := (by repeat' (first | exact Below.refl _ _ | (with_reducible assumption) | (with_reducible refine Below.alloc ?_ ?_ _) | (with_reducible refine Below.setCell ?_ ?_ _) | (with_reducible refine Below.drew ?_) | (with_reducible refine below_drewN ?_ _) | (refine Below.trans ?_ (Below.mono (by assumption) ?_)) | (with_reducible exact Nat.le_refl _) | (with_reducible assumption) | (exact Below.size (by assumption)) | omega | go_size | (simp at *; omega)))
  have hX := Bx.new w 35 #[.slice A n c, .slice B m d]
  have hV := l06Ok_any w.heap.size A B n c m d p (w.alloc (Obj.cells #[.slice A n c, .slice B m d] 35)) (by omega) (by omega) hX ((hr.below hbx (Nat.le_refl _)).more hbx.size) ((hs.below hbx (Nat.le_refl _)).more hbx.size)
  have HR := hid (fun (w9 : World) (b9 : Below w.heap.size w w9) => (hr.below b9 (Nat.le_refl _)).more b9.size)
  have HS := hid (fun (w9 : World) (b9 : Below w.heap.size w w9) => (hs.below b9 (Nat.le_refl _)).more b9.size)
  clear hr hs
  cases hp : psOk p with
  | false =>
    have HZ : Hid (rPassesOf p = (([], []), 1)) := by show _ = _; rw [rPassesOf, hp]; rfl
    rw [hp] at hV
    have hV := hid hV
    clear hp l1 l2 hX
    go_enter Try.func34, Try.ntmps34
    go_wp2_with fail
    refine hV.out.mono ?_
    rintro e w1 ⟨rfl, hb1⟩
    go_wp2
    go_ret3
    exact ⟨by rw [HZ.out]; exact PsRes.no _ _ _, (by repeat' (first | exact Below.refl _ _ | (with_reducible assumption) | (with_reducible refine Below.alloc ?_ ?_ _) | (with_reducible refine Below.setCell ?_ ?_ _) | (with_reducible refine Below.drew ?_) | (with_reducible refine below_drewN ?_ _) | (refine Below.trans ?_ (Below.mono (by assumption) ?_)) | (with_reducible exact Nat.le_refl _) | (with_reducible assumption) | (exact Below.size (by assumption)) | omega | go_size | (simp at *; omega)))⟩
  | true =>
    rw [hp] at hV
    have hV := hid hV
    have h18 := psSh_iff.1 (psOk_iff.1 hp).1
    have hn8 : n ≤ 8 := by omega
    have hm8 : m ≤ 8 := by omega
    have HP := hid hp
    have HL1 := hid l1
    have HL2 := hid l2
    clear hp h18 l1 l2
    go_enter Try.func34, Try.ntmps34
    go_wp2_with fail
    refine hV.out.mono ?_
    rintro e w1 ⟨rfl, hb1⟩
    have hB1 : Below w.heap.size w w1 := (by repeat' (first | exact Below.refl _ _ | (with_reducible assumption) | (with_reducible refine Below.alloc ?_ ?_ _) | (with_reducible refine Below.setCell ?_ ?_ _) | (with_reducible refine Below.drew ?_) | (with_reducible refine below_drewN ?_ _) | (refine Below.trans ?_ (Below.mono (by assumption) ?_)) | (with_reducible exact Nat.le_refl _) | (with_reducible assumption) | (exact Below.size (by assumption)) | omega | go_size | (simp at *; omega)))
    have hX1 := hX.below hb1 hX.lt
    have c0 : w1.cell? ⟨w.heap.size, 0, none⟩ = some (.slice A n c) := hX1.cell 0
    have c1 : w1.cell? ⟨w.heap.size, 1, none⟩ = some (.slice B m d) := hX1.cell 1
    have hgw : w.heap.size < w1.heap.size := hX1.lt
    clear hX hX1 hV hb1
    have HZ : Hid (rPassesOf p = ((passB 0 p.1, passB 0 p.2), 0)) := by show _ = _; rw [rPassesOf, if_pos HP.out]
    go_wp2
    have hS := hid (fun (w9 : World) (b : Below w1.heap.size w1 w9) => (⟨b, (b.cell (p := ⟨w.heap.size, 0, none⟩) hgw).trans c0, (b.cell (p := ⟨w.heap.size, 1, none⟩) hgw).trans c1⟩ : Below w1.heap.size w1 w9 ∧ w9.cell? ⟨w.heap.size, 0, none⟩ = some (.slice A n c) ∧ w9.cell? ⟨w.heap.size, 1, none⟩ = some (.slice B m d)))
    have hT1 := hid (fun (w9 : World) (b : Below w1.heap.size w1 w9) => (l06Passes_any A n c p.1 w9 (by omega) ((HR.out w9 (bchain hB1 b)))).mono (fun e w' h => show ∃ A5 c5, e = .returned (.slice A5 (passB 0 p.1).length c5) ∧ w'.ownsRow w9.heap.size 2 1 (.slice A5 (passB 0 p.1).length c5) (passB 0 p.1).length (ints (passB 0 p.1)) ∧ Below w9.heap.size w9 w' from by
      obtain ⟨v, rfl, ho, hb⟩ := h
      obtain ⟨A5, c5, rfl⟩ := own_form ho
      exact ⟨A5, c5, rfl, ho, hb⟩))
    have hT2 := hid (fun (w9 : World) (b : Below w1.heap.size w1 w9) => (l06Passes_any B m d p.2 w9 (by omega) ((HS.out w9 (bchain hB1 b)))).mono (fun e w' h => show ∃ A5 c5, e = .returned (.slice A5 (passB 0 p.2).length c5) ∧ w'.ownsRow w9.heap.size 2 1 (.slice A5 (passB 0 p.2).length c5) (passB 0 p.2).length (ints (passB 0 p.2)) ∧ Below w9.heap.size w9 w' from by
      obtain ⟨v, rfl, ho, hb⟩ := h
      obtain ⟨A5, c5, rfl⟩ := own_form ho
      exact ⟨A5, c5, rfl, ho, hb⟩))
    have hBd : Below w1.heap.size w1 w1.drew := (by repeat' (first | exact Below.refl _ _ | (with_reducible assumption) | (with_reducible refine Below.alloc ?_ ?_ _) | (with_reducible refine Below.setCell ?_ ?_ _) | (with_reducible refine Below.drew ?_) | (with_reducible refine below_drewN ?_ _) | (refine Below.trans ?_ (Below.mono (by assumption) ?_)) | (with_reducible exact Nat.le_refl _) | (with_reducible assumption) | (exact Below.size (by assumption)) | omega | go_size | (simp at *; omega)))
    have hzd : w1.heap.size ≤ w1.drew.heap.size := Nat.le_refl _
    first
      | (go_region_held3 (fun w' => Below w1.heap.size w1 w' ∧ w'.cell? ⟨w.heap.size, 0, none⟩ = some (.slice A n c) ∧ w'.cell? ⟨w.heap.size, 1, none⟩ = some (.slice B m d)) (with_reducible exact hS.out _ (by assumption)) (first | (go_at_call 104; with_reducible refine (hT1.out _ (by assumption)).mono ?_; rintro e w5 ⟨A5, c5, rfl, ho5, hb5⟩; (try replace ho6 := own_below ho6 hb5); have hB5 := bchain (show Below w1.heap.size w1 _ by assumption) hb5) | (go_at_call 104; with_reducible refine (hT2.out _ (by assumption)).mono ?_; rintro e w6 ⟨A6, c6, rfl, ho6, hb6⟩; (try replace ho5 := own_below ho5 hb6); have hB6 := bchain (show Below w1.heap.size w1 _ by assumption) hb6)))
      | fail
    all_goals
      have hz1 : w.heap.size ≤ w1.heap.size := hB1.size
      have ho5' := own_more ho5 (show w.heap.size ≤ _ by first | exact Nat.le_of_lt hgw | (have := hB5.size; omega) | (have := hB6.size; omega))
      have ho6' := own_more ho6 (show w.heap.size ≤ _ by first | exact Nat.le_of_lt hgw | (have := hB5.size; omega) | (have := hB6.size; omega))
      go_wp2
      go_ret3
      refine ⟨?_, bchain hB1 (by assumption)⟩
      rw [HZ.out]
      exact PsRes.mk (Nat.le_refl _) ho5' ho6'
set_option maxRecDepth 100000 in
set_option maxHeartbeats 4000000 in
theorem ApartOf_any (A B : Option Addr) (n c m d : Nat) (p : Psg) (w : World) (hn : n ≤ 1099511627775) (hm : m ≤ 1099511627775) (hr : Rd w w.heap.size 2 A n (ths p.1)) (hs : Rd w w.heap.size 2 B m (ths p.2)) :
    Calls Try.prog 30 #[.agg #[.slice A n c, .slice B m d]] w fun e w' => PsRes w.heap.size (rApartOf p) e w' ∧ Below w.heap.size w w' := by
  have l1 := hr.th_len
  have l2 := hs.th_len
  have hbx : Below w.heap.size w (w.alloc (Obj.cells #[.slice A n c, .slice B m d] 35)) := (by repeat' (first | exact Below.refl _ _ | (with_reducible assumption) | (with_reducible refine Below.alloc ?_ ?_ _) | (with_reducible refine Below.setCell ?_ ?_ _) | (with_reducible refine Below.drew ?_) | (with_reducible refine below_drewN ?_ _) | (refine Below.trans ?_ (Below.mono (by assumption) ?_)) | (with_reducible exact Nat.le_refl _) | (with_reducible assumption) | (exact Below.size (by assumption)) | omega | go_size | (simp at *; omega)))
  have hX := Bx.new w 35 #[.slice A n c, .slice B m d]
  have hV := ValidPassing_any A B n c m d p (w.alloc (Obj.cells #[.slice A n c, .slice B m d] 35)) (by omega) (by omega) ((hr.below hbx (Nat.le_refl _)).more hbx.size) ((hs.below hbx (Nat.le_refl _)).more hbx.size)
  have HR := hid (fun (w9 : World) (b9 : Below w.heap.size w w9) => (hr.below b9 (Nat.le_refl _)).more b9.size)
  have HS := hid (fun (w9 : World) (b9 : Below w.heap.size w w9) => (hs.below b9 (Nat.le_refl _)).more b9.size)
  clear hr hs
  cases hp : psOk p with
  | false =>
    have HZ : Hid (rApartOf p = (([], []), 1)) := by show _ = _; rw [rApartOf, hp]; rfl
    rw [hp] at hV
    have hV := hid hV
    clear hp l1 l2 hX
    go_enter Try.func30, Try.ntmps30
    go_wp2_with fail
    refine hV.out.mono ?_
    rintro e w1 ⟨rfl, hb1⟩
    go_wp2
    go_ret3
    exact ⟨by rw [HZ.out]; exact PsRes.no _ _ _, (by repeat' (first | exact Below.refl _ _ | (with_reducible assumption) | (with_reducible refine Below.alloc ?_ ?_ _) | (with_reducible refine Below.setCell ?_ ?_ _) | (with_reducible refine Below.drew ?_) | (with_reducible refine below_drewN ?_ _) | (refine Below.trans ?_ (Below.mono (by assumption) ?_)) | (with_reducible exact Nat.le_refl _) | (with_reducible assumption) | (exact Below.size (by assumption)) | omega | go_size | (simp at *; omega)))⟩
  | true =>
    rw [hp] at hV
    have hV := hid hV
    have h18 := psSh_iff.1 (psOk_iff.1 hp).1
    have hn8 : n ≤ 8 := by omega
    have hm8 : m ≤ 8 := by omega
    have HP := hid hp
    have HL1 := hid l1
    have HL2 := hid l2
    clear hp h18 l1 l2
    go_enter Try.func30, Try.ntmps30
    go_wp2_with fail
    refine hV.out.mono ?_
    rintro e w1 ⟨rfl, hb1⟩
    have hB1 : Below w.heap.size w w1 := (by repeat' (first | exact Below.refl _ _ | (with_reducible assumption) | (with_reducible refine Below.alloc ?_ ?_ _) | (with_reducible refine Below.setCell ?_ ?_ _) | (with_reducible refine Below.drew ?_) | (with_reducible refine below_drewN ?_ _) | (refine Below.trans ?_ (Below.mono (by assumption) ?_)) | (with_reducible exact Nat.le_refl _) | (with_reducible assumption) | (exact Below.size (by assumption)) | omega | go_size | (simp at *; omega)))
    have hX1 := hX.below hb1 hX.lt
    have c0 : w1.cell? ⟨w.heap.size, 0, none⟩ = some (.slice A n c) := hX1.cell 0
    have c1 : w1.cell? ⟨w.heap.size, 1, none⟩ = some (.slice B m d) := hX1.cell 1
    have hgw : w.heap.size < w1.heap.size := hX1.lt
    clear hX hX1 hV hb1
    have HSUM := hid (sum_pos p)
    have hk1 : (passB 0 p.1).length ≤ n := by rw [← HL1.out]; exact passB_len _ _
    have hk2 : (passB 0 p.2).length ≤ m := by rw [← HL2.out]; exact passB_len _ _
    have hk3 : (0 : Int) ≤ ((passB 0 p.1).length : Int) := by omega
    have hk4 : (0 : Int) ≤ ((passB 0 p.2).length : Int) := by omega
    have hsum : IntKind.i64.wrap (((passB 0 p.1).length : Int) + ((passB 0 p.2).length : Int)) = ((passB 0 p.1).length : Int) + ((passB 0 p.2).length : Int) := IntWalk.i64_in _ (by omega)
    go_wp2
    cases hall : (p.1.all (fun x => !x.2) && p.2.all (fun x => !x.2)) with
    | false =>
      have HZ : Hid (rApartOf p = (([], []), 10)) := by show _ = _; rw [rApartOf, if_pos HP.out, hall]; rfl
      have hpos : (0 : Int) < ((passB 0 p.1).length : Int) + ((passB 0 p.2).length : Int) := by have := HSUM.out.2 (by rw [hall]; simp); omega
      clear hall
      have hS := hid (fun (w9 : World) (b : Below w1.heap.size w1 w9) => (⟨b, (b.cell (p := ⟨w.heap.size, 0, none⟩) hgw).trans c0, (b.cell (p := ⟨w.heap.size, 1, none⟩) hgw).trans c1⟩ : Below w1.heap.size w1 w9 ∧ w9.cell? ⟨w.heap.size, 0, none⟩ = some (.slice A n c) ∧ w9.cell? ⟨w.heap.size, 1, none⟩ = some (.slice B m d)))
      have hT1 := hid (fun (w9 : World) (b : Below w1.heap.size w1 w9) => (passBeats_any A n c p.1 w9 (by omega) ((HR.out w9 (bchain hB1 b)))).mono (fun e w' h => show ∃ A5 c5, e = .returned (.slice A5 (passB 0 p.1).length c5) ∧ w'.ownsRow w9.heap.size 2 1 (.slice A5 (passB 0 p.1).length c5) (passB 0 p.1).length (ints (passB 0 p.1)) ∧ Below w9.heap.size w9 w' from by
        obtain ⟨v, rfl, ho, hb⟩ := h
        obtain ⟨A5, c5, rfl⟩ := own_form ho
        exact ⟨A5, c5, rfl, ho, hb⟩))
      have hT2 := hid (fun (w9 : World) (b : Below w1.heap.size w1 w9) => (passBeats_any B m d p.2 w9 (by omega) ((HS.out w9 (bchain hB1 b)))).mono (fun e w' h => show ∃ A5 c5, e = .returned (.slice A5 (passB 0 p.2).length c5) ∧ w'.ownsRow w9.heap.size 2 1 (.slice A5 (passB 0 p.2).length c5) (passB 0 p.2).length (ints (passB 0 p.2)) ∧ Below w9.heap.size w9 w' from by
        obtain ⟨v, rfl, ho, hb⟩ := h
        obtain ⟨A5, c5, rfl⟩ := own_form ho
        exact ⟨A5, c5, rfl, ho, hb⟩))
      have hBd : Below w1.heap.size w1 w1.drew := (by repeat' (first | exact Below.refl _ _ | (with_reducible assumption) | (with_reducible refine Below.alloc ?_ ?_ _) | (with_reducible refine Below.setCell ?_ ?_ _) | (with_reducible refine Below.drew ?_) | (with_reducible refine below_drewN ?_ _) | (refine Below.trans ?_ (Below.mono (by assumption) ?_)) | (with_reducible exact Nat.le_refl _) | (with_reducible assumption) | (exact Below.size (by assumption)) | omega | go_size | (simp at *; omega)))
      have hzd : w1.heap.size ≤ w1.drew.heap.size := Nat.le_refl _
      first
        | (go_region_held3 (fun w' => Below w1.heap.size w1 w' ∧ w'.cell? ⟨w.heap.size, 0, none⟩ = some (.slice A n c) ∧ w'.cell? ⟨w.heap.size, 1, none⟩ = some (.slice B m d)) (with_reducible exact hS.out _ (by assumption)) (first | (go_at_call 101; with_reducible refine (hT1.out _ (by assumption)).mono ?_; rintro e w5 ⟨A5, c5, rfl, ho5, hb5⟩; (try replace ho6 := own_below ho6 hb5); have hB5 := bchain (show Below w1.heap.size w1 _ by assumption) hb5) | (go_at_call 101; with_reducible refine (hT2.out _ (by assumption)).mono ?_; rintro e w6 ⟨A6, c6, rfl, ho6, hb6⟩; (try replace ho5 := own_below ho5 hb6); have hB6 := bchain (show Below w1.heap.size w1 _ by assumption) hb6)))
        | fail
      all_goals
        go_wp2
        go_ret3
        exact ⟨by rw [HZ.out]; exact PsRes.no _ _ _, bchain hB1 (by assumption)⟩
    | true =>
      have HZ : Hid (rApartOf p = ((valsL p.1, valsL p.2), 0)) := by show _ = _; rw [rApartOf, if_pos HP.out, hall]; rfl
      have hpos : ¬ (0 : Int) < ((passB 0 p.1).length : Int) + ((passB 0 p.2).length : Int) := by
        intro h
        exact HSUM.out.1 (by omega) hall
      clear hall
      have hS := hid (fun (w9 : World) (b : Below w1.heap.size w1 w9) => (⟨b, (b.cell (p := ⟨w.heap.size, 0, none⟩) hgw).trans c0, (b.cell (p := ⟨w.heap.size, 1, none⟩) hgw).trans c1⟩ : Below w1.heap.size w1 w9 ∧ w9.cell? ⟨w.heap.size, 0, none⟩ = some (.slice A n c) ∧ w9.cell? ⟨w.heap.size, 1, none⟩ = some (.slice B m d)))
      have hT1 := hid (fun (w9 : World) (b : Below w1.heap.size w1 w9) => (passBeats_any A n c p.1 w9 (by omega) ((HR.out w9 (bchain hB1 b)))).mono (fun e w' h => show ∃ A5 c5, e = .returned (.slice A5 (passB 0 p.1).length c5) ∧ w'.ownsRow w9.heap.size 2 1 (.slice A5 (passB 0 p.1).length c5) (passB 0 p.1).length (ints (passB 0 p.1)) ∧ Below w9.heap.size w9 w' from by
        obtain ⟨v, rfl, ho, hb⟩ := h
        obtain ⟨A5, c5, rfl⟩ := own_form ho
        exact ⟨A5, c5, rfl, ho, hb⟩))
      have hT2 := hid (fun (w9 : World) (b : Below w1.heap.size w1 w9) => (passBeats_any B m d p.2 w9 (by omega) ((HS.out w9 (bchain hB1 b)))).mono (fun e w' h => show ∃ A5 c5, e = .returned (.slice A5 (passB 0 p.2).length c5) ∧ w'.ownsRow w9.heap.size 2 1 (.slice A5 (passB 0 p.2).length c5) (passB 0 p.2).length (ints (passB 0 p.2)) ∧ Below w9.heap.size w9 w' from by
        obtain ⟨v, rfl, ho, hb⟩ := h
        obtain ⟨A5, c5, rfl⟩ := own_form ho
        exact ⟨A5, c5, rfl, ho, hb⟩))
      have hBd : Below w1.heap.size w1 w1.drew := (by repeat' (first | exact Below.refl _ _ | (with_reducible assumption) | (with_reducible refine Below.alloc ?_ ?_ _) | (with_reducible refine Below.setCell ?_ ?_ _) | (with_reducible refine Below.drew ?_) | (with_reducible refine below_drewN ?_ _) | (refine Below.trans ?_ (Below.mono (by assumption) ?_)) | (with_reducible exact Nat.le_refl _) | (with_reducible assumption) | (exact Below.size (by assumption)) | omega | go_size | (simp at *; omega)))
      have hzd : w1.heap.size ≤ w1.drew.heap.size := Nat.le_refl _
      first
        | (go_region_held3 (fun w' => Below w1.heap.size w1 w' ∧ w'.cell? ⟨w.heap.size, 0, none⟩ = some (.slice A n c) ∧ w'.cell? ⟨w.heap.size, 1, none⟩ = some (.slice B m d)) (with_reducible exact hS.out _ (by assumption)) (first | (go_at_call 101; with_reducible refine (hT1.out _ (by assumption)).mono ?_; rintro e w5 ⟨A5, c5, rfl, ho5, hb5⟩; (try replace ho6 := own_below ho6 hb5); have hB5 := bchain (show Below w1.heap.size w1 _ by assumption) hb5) | (go_at_call 101; with_reducible refine (hT2.out _ (by assumption)).mono ?_; rintro e w6 ⟨A6, c6, rfl, ho6, hb6⟩; (try replace ho5 := own_below ho5 hb6); have hB6 := bchain (show Below w1.heap.size w1 _ by assumption) hb6)))
        | fail
      all_goals
        first
          | (have q : Below w5.heap.size w5 w6 := hb6
             have hBW : Below w1.heap.size w1 w6 := hB6
             obtain ⟨W, rfl⟩ : ∃ W : World, W = w6 := ⟨_, rfl⟩)
          | (have q : Below w6.heap.size w6 w5 := hb5
             have hBW : Below w1.heap.size w1 w5 := hB5
             obtain ⟨W, rfl⟩ : ∃ W : World, W = w5 := ⟨_, rfl⟩)
        have d0 := (hBW.cell (p := ⟨w.heap.size, 0, none⟩) hgw).trans c0
        have d1 := (hBW.cell (p := ⟨w.heap.size, 1, none⟩) hgw).trans c1
        have hgW : w.heap.size < W.heap.size := by have := hBW.size; omega
        replace hB1 := bchain hB1 hBW
        clear q hS hT1 hT2 hBd hzd c0 c1 hgw ho5 ho6 hBW hB5 hB6 hb5 hb6
        have hgw := hgW
        have c0 := d0
        have c1 := d1
        clear d0 d1 hgW
        go_wp2
        have hS := hid (fun (w9 : World) (b : Below W.heap.size W w9) => (⟨b, (b.cell (p := ⟨w.heap.size, 0, none⟩) hgw).trans c0, (b.cell (p := ⟨w.heap.size, 1, none⟩) hgw).trans c1⟩ : Below W.heap.size W w9 ∧ w9.cell? ⟨w.heap.size, 0, none⟩ = some (.slice A n c) ∧ w9.cell? ⟨w.heap.size, 1, none⟩ = some (.slice B m d)))
        have hT1 := hid (fun (w9 : World) (b : Below W.heap.size W w9) => (valuesOf_any A n c p.1 w9 (by omega) ((HR.out w9 (bchain hB1 b)))).mono (fun e w' h => show ∃ A5 c5, e = .returned (.slice A5 (valsL p.1).length c5) ∧ w'.ownsRow w9.heap.size 2 1 (.slice A5 (valsL p.1).length c5) (valsL p.1).length (ints (valsL p.1)) ∧ Below w9.heap.size w9 w' from by
          obtain ⟨v, rfl, ho, hb⟩ := h
          obtain ⟨A5, c5, rfl⟩ := own_form ho
          exact ⟨A5, c5, rfl, ho, hb⟩))
        have hT2 := hid (fun (w9 : World) (b : Below W.heap.size W w9) => (valuesOf_any B m d p.2 w9 (by omega) ((HS.out w9 (bchain hB1 b)))).mono (fun e w' h => show ∃ A5 c5, e = .returned (.slice A5 (valsL p.2).length c5) ∧ w'.ownsRow w9.heap.size 2 1 (.slice A5 (valsL p.2).length c5) (valsL p.2).length (ints (valsL p.2)) ∧ Below w9.heap.size w9 w' from by
          obtain ⟨v, rfl, ho, hb⟩ := h
          obtain ⟨A5, c5, rfl⟩ := own_form ho
          exact ⟨A5, c5, rfl, ho, hb⟩))
        have hBd : Below W.heap.size W W.drew := (by repeat' (first | exact Below.refl _ _ | (with_reducible assumption) | (with_reducible refine Below.alloc ?_ ?_ _) | (with_reducible refine Below.setCell ?_ ?_ _) | (with_reducible refine Below.drew ?_) | (with_reducible refine below_drewN ?_ _) | (refine Below.trans ?_ (Below.mono (by assumption) ?_)) | (with_reducible exact Nat.le_refl _) | (with_reducible assumption) | (exact Below.size (by assumption)) | omega | go_size | (simp at *; omega)))
        have hzd : W.heap.size ≤ W.drew.heap.size := Nat.le_refl _
        first
          | (go_region_held3 (fun w' => Below W.heap.size W w' ∧ w'.cell? ⟨w.heap.size, 0, none⟩ = some (.slice A n c) ∧ w'.cell? ⟨w.heap.size, 1, none⟩ = some (.slice B m d)) (with_reducible exact hS.out _ (by assumption)) (first | (go_at_call 102; with_reducible refine (hT1.out _ (by assumption)).mono ?_; rintro e w5 ⟨A5, c5, rfl, ho5, hb5⟩; (try replace ho6 := own_below ho6 hb5); have hB5 := bchain (show Below W.heap.size W _ by assumption) hb5) | (go_at_call 102; with_reducible refine (hT2.out _ (by assumption)).mono ?_; rintro e w6 ⟨A6, c6, rfl, ho6, hb6⟩; (try replace ho5 := own_below ho5 hb6); have hB6 := bchain (show Below W.heap.size W _ by assumption) hb6)))
          | fail
        all_goals
          have ho5' := own_more ho5 (show w.heap.size ≤ _ by first | exact Nat.le_of_lt hgw | (have := hB5.size; omega) | (have := hB6.size; omega))
          have ho6' := own_more ho6 (show w.heap.size ≤ _ by first | exact Nat.le_of_lt hgw | (have := hB5.size; omega) | (have := hB6.size; omega))
          go_wp2
          go_ret3
          refine ⟨?_, bchain hB1 (by assumption)⟩
          rw [HZ.out]
          exact PsRes.mk (Nat.le_refl _) ho5' ho6'
end Go.Proofs.Ytlbhfjbbkkkldaa

/- Contract of the reference's ApartOf. -/
namespace Go.Proofs.Ytlbhfjbbkkkldaa
open Go.RowKit
set_option linter.unusedVariables false

set_option maxRecDepth 100000 in
set_option maxHeartbeats 4000000 in
theorem specApartOf_any (A B : Option Addr) (n c m d : Nat) (p : Psg) (w : World) (hn : n ≤ 1099511627775) (hm : m ≤ 1099511627775) (hr : Rd w w.heap.size 2 A n (ths p.1)) (hs : Rd w w.heap.size 2 B m (ths p.2)) :
    Calls Try.prog 31 #[.agg #[.slice A n c, .slice B m d]] w fun e w' => PsRes w.heap.size (rApartOf p) e w' ∧ Below w.heap.size w w' := by
  have l1 := hr.th_len
  have l2 := hs.th_len
  have hbx : Below w.heap.size w (w.alloc (Obj.cells #[.slice A n c, .slice B m d] 35)) := (by repeat' (first | exact Below.refl _ _ | (with_reducible assumption) | (with_reducible refine Below.alloc ?_ ?_ _) | (with_reducible refine Below.setCell ?_ ?_ _) | (with_reducible refine Below.drew ?_) | (with_reducible refine below_drewN ?_ _) | (refine Below.trans ?_ (Below.mono (by assumption) ?_)) | (with_reducible exact Nat.le_refl _) | (with_reducible assumption) | (exact Below.size (by assumption)) | omega | go_size | (simp at *; omega)))
  have hX := Bx.new w 35 #[.slice A n c, .slice B m d]
  have hV := l06Ok_any w.heap.size A B n c m d p (w.alloc (Obj.cells #[.slice A n c, .slice B m d] 35)) (by omega) (by omega) hX ((hr.below hbx (Nat.le_refl _)).more hbx.size) ((hs.below hbx (Nat.le_refl _)).more hbx.size)
  have HR := hid (fun (w9 : World) (b9 : Below w.heap.size w w9) => (hr.below b9 (Nat.le_refl _)).more b9.size)
  have HS := hid (fun (w9 : World) (b9 : Below w.heap.size w w9) => (hs.below b9 (Nat.le_refl _)).more b9.size)
  clear hr hs
  cases hp : psOk p with
  | false =>
    have HZ : Hid (rApartOf p = (([], []), 1)) := by show _ = _; rw [rApartOf, hp]; rfl
    rw [hp] at hV
    have hV := hid hV
    clear hp l1 l2 hX
    go_enter Try.func31, Try.ntmps31
    go_wp2_with fail
    refine hV.out.mono ?_
    rintro e w1 ⟨rfl, hb1⟩
    go_wp2
    go_ret3
    exact ⟨by rw [HZ.out]; exact PsRes.no _ _ _, (by repeat' (first | exact Below.refl _ _ | (with_reducible assumption) | (with_reducible refine Below.alloc ?_ ?_ _) | (with_reducible refine Below.setCell ?_ ?_ _) | (with_reducible refine Below.drew ?_) | (with_reducible refine below_drewN ?_ _) | (refine Below.trans ?_ (Below.mono (by assumption) ?_)) | (with_reducible exact Nat.le_refl _) | (with_reducible assumption) | (exact Below.size (by assumption)) | omega | go_size | (simp at *; omega)))⟩
  | true =>
    rw [hp] at hV
    have hV := hid hV
    have h18 := psSh_iff.1 (psOk_iff.1 hp).1
    have hn8 : n ≤ 8 := by omega
    have hm8 : m ≤ 8 := by omega
    have HP := hid hp
    have HL1 := hid l1
    have HL2 := hid l2
    clear hp h18 l1 l2
    go_enter Try.func31, Try.ntmps31
    go_wp2_with fail
    refine hV.out.mono ?_
    rintro e w1 ⟨rfl, hb1⟩
    have hB1 : Below w.heap.size w w1 := (by repeat' (first | exact Below.refl _ _ | (with_reducible assumption) | (with_reducible refine Below.alloc ?_ ?_ _) | (with_reducible refine Below.setCell ?_ ?_ _) | (with_reducible refine Below.drew ?_) | (with_reducible refine below_drewN ?_ _) | (refine Below.trans ?_ (Below.mono (by assumption) ?_)) | (with_reducible exact Nat.le_refl _) | (with_reducible assumption) | (exact Below.size (by assumption)) | omega | go_size | (simp at *; omega)))
    have hX1 := hX.below hb1 hX.lt
    have c0 : w1.cell? ⟨w.heap.size, 0, none⟩ = some (.slice A n c) := hX1.cell 0
    have c1 : w1.cell? ⟨w.heap.size, 1, none⟩ = some (.slice B m d) := hX1.cell 1
    have hgw : w.heap.size < w1.heap.size := hX1.lt
    clear hX hX1 hV hb1
    have hT1 := hid (fun (w9 : World) (b : Below w.heap.size w w9) => l06Alone_any A n c p.1 w9 (by omega) (HR.out w9 b))
    have hT2 := hid (fun (w9 : World) (b : Below w.heap.size w w9) => l06Alone_any B m d p.2 w9 (by omega) (HS.out w9 b))
    go_wp2_with fail
    refine (hT1.out _ hB1).mono ?_
    rintro e w2 ⟨h2, hb2⟩
    rcases h2 with ⟨a1, rfl⟩ | ⟨a1, v1, rfl, ho1⟩
    · have hB2 := bchain hB1 hb2
      have d1 := (hb2.cell (p := ⟨w.heap.size, 1, none⟩) hgw).trans c1
      have hgw2 : w.heap.size < w2.heap.size := by have := hb2.size; omega
      clear c0 c1
      go_wp2_with fail
      refine (hT2.out _ hB2).mono ?_
      rintro e w3 ⟨h3, hb3⟩
      have hB3 := bchain hB2 hb3
      have HZ : Hid (rApartOf p = (([], []), 10)) := by show _ = _; rw [rApartOf, if_pos HP.out, a1]; rfl
      clear a1
      rcases h3 with ⟨a2, rfl⟩ | ⟨a2, v2, rfl, ho2⟩
      · clear a2
        go_wp2
        go_ret3
        exact ⟨by rw [HZ.out]; exact PsRes.no _ _ _, hB3⟩
      · clear a2
        go_wp2
        go_ret3
        exact ⟨by rw [HZ.out]; exact PsRes.no _ _ _, hB3⟩
    · have hB2 := bchain hB1 hb2
      have d1 := (hb2.cell (p := ⟨w.heap.size, 1, none⟩) hgw).trans c1
      have hgw2 : w.heap.size < w2.heap.size := by have := hb2.size; omega
      clear c0 c1
      go_wp2_with fail
      refine (hT2.out _ hB2).mono ?_
      rintro e w3 ⟨h3, hb3⟩
      have hB3 := bchain hB2 hb3
      rcases h3 with ⟨a2, rfl⟩ | ⟨a2, v2, rfl, ho2⟩
      · have HZ : Hid (rApartOf p = (([], []), 10)) := by show _ = _; rw [rApartOf, if_pos HP.out, a1, a2]; rfl
        clear a1 a2 ho1
        go_wp2
        go_ret3
        exact ⟨by rw [HZ.out]; exact PsRes.no _ _ _, hB3⟩
      · have HZ : Hid (rApartOf p = ((valsL p.1, valsL p.2), 0)) := by show _ = _; rw [rApartOf, if_pos HP.out, a1, a2]; rfl
        have ho1' := own_more (own_below ho1 hb3) (Nat.le_of_lt hgw)
        have ho2' := own_more ho2 (Nat.le_of_lt hgw2)
        obtain ⟨A5, c5, rfl⟩ := own_form ho1'
        obtain ⟨A6, c6, rfl⟩ := own_form ho2'
        clear a1 a2 ho1 ho2
        go_wp2
        go_ret3
        refine ⟨?_, hB3⟩
        rw [HZ.out]
        exact PsRes.mk (Nat.le_refl _) ho1' ho2'
end Go.Proofs.Ytlbhfjbbkkkldaa

/- Plain: two patterns that are juggled together; their passing pattern, its props, and that it comes apart. -/
namespace Go.Proofs.Ytlbhfjbbkkkldaa
open Go.RowKit
set_option linter.unusedVariables false

theorem vals_selfs (a : List Int) : valsL (selfs a) = a := by simp [valsL, selfs, Function.comp_def]
theorem all_selfs (a : List Int) : (selfs a).all (fun x => !x.2) = true := by simp [selfs]
theorem selfs_at {a : List Int} {i : Nat} {t : PT} (h : (selfs a)[i]? = some t) : i < a.length ∧ t = (a.getD i 0, false) := by
  have hi : i < (selfs a).length := (List.getElem?_eq_some_iff.1 h).1
  rw [selfs_len] at hi
  refine ⟨hi, ?_⟩
  simp [selfs, List.getElem?_eq_getElem hi] at h
  rw [← h, List.getD_eq_getElem?_getD, List.getElem?_eq_getElem hi]
  rfl
theorem psL_self {a : List Int} (h : okP a = true) {n j i : Nat} (hn : a.length = n) (hi : i < n) : (psL n j i (a.getD i 0, false) : Int) = Ld a i * 2 + j := by
  have h1 := (thOk_iff (okP_th h)).1
  have h0 : 0 ≤ a.getD i 0 := (getD_bd (okP_th h) i).1
  unfold psL Ld
  rw [hn]
  simp only [Bool.false_eq_true, if_false]
  have : ((i + (a.getD i 0).toNat) % n : Nat) = (((i : Int) + a.getD i 0) % (n : Int)) := by
    rw [Int.natCast_emod, Int.natCast_add, Int.toNat_of_nonneg h0]
  omega
theorem nodup_self {a : List Int} (h : okP a = true) {n : Nat} (hn : a.length = n) (j : Nat) : (psLs n j (selfs a)).Nodup := by
  unfold List.Nodup
  refine List.pairwise_iff_getElem.2 fun i k hi hk hik e => ?_
  replace e : (psLs n j (selfs a))[i]? = (psLs n j (selfs a))[k]? := by rw [List.getElem?_eq_getElem hi, List.getElem?_eq_getElem hk, e]
  rw [psLs_len, selfs_len] at hk
  have h1 : (selfs a)[i]? = some (a.getD i 0, false) := by
    simp [selfs, List.getElem?_eq_getElem (show i < a.length by omega), List.getD_eq_getElem?_getD]
  have h2 : (selfs a)[k]? = some (a.getD k 0, false) := by
    simp [selfs, List.getElem?_eq_getElem (show k < a.length by omega), List.getD_eq_getElem?_getD]
  rw [psLs_at h1, psLs_at h2] at e
  have e := Option.some.inj e
  have e1 := psL_self h (j := j) hn (show i < n by omega)
  have e2 := psL_self h (j := j) hn (show k < n by omega)
  rw [e] at e1
  exact okP_ne h (show i < a.length by omega) (show k < a.length by omega) (by omega) (by omega)
theorem mem_self {a : List Int} (h : okP a = true) {n j x : Nat} (hn : a.length = n) (hx : x ∈ psLs n j (selfs a)) : ∃ y : Int, (x : Int) = y * 2 + j := by
  obtain ⟨i, hi⟩ := List.getElem?_of_mem hx
  have hl : i < n := by have := (List.getElem?_eq_some_iff.1 hi).1; rw [psLs_len, selfs_len] at this; omega
  have h1 : (selfs a)[i]? = some (a.getD i 0, false) := by
    simp [selfs, List.getElem?_eq_getElem (show i < a.length by omega), List.getD_eq_getElem?_getD]
  rw [psLs_at h1] at hi
  have hi := Option.some.inj hi
  exact ⟨Ld a i, by rw [← hi]; exact psL_self h hn hl⟩
theorem pts_self {a : List Int} (h : okP a = true) : ptsOk (selfs a) = true := by
  rw [ptsOk_iff]
  intro t ht
  obtain ⟨i, hi⟩ := List.getElem?_of_mem ht
  obtain ⟨_, rfl⟩ := selfs_at hi
  exact ptOk_iff.2 ⟨getD_bd (okP_th h) i, fun _ => rfl⟩
theorem psOk_selfs {a b : List Int} (ha : okP a = true) (hb : okP b = true) (hl : a.length = b.length) (h8 : a.length ≤ 8) : psOk (selfs a, selfs b) = true := by
  refine psOk_iff.2 ⟨psSh_iff.2 ⟨⟨by rw [selfs_len]; exact (thOk_iff (okP_th ha)).2.1, by rw [selfs_len]; exact h8⟩, by rw [selfs_len, selfs_len]; exact hl, pts_self ha, pts_self hb⟩, ?_⟩
  show (psLs (selfs a).length 0 (selfs a) ++ psLs (selfs a).length 1 (selfs b)).Nodup
  rw [selfs_len]
  refine List.nodup_append.2 ⟨nodup_self ha rfl 0, nodup_self hb hl.symm 1, ?_⟩
  intro x hx y hy e
  obtain ⟨u, hu⟩ := mem_self ha rfl hx
  obtain ⟨v, hv⟩ := mem_self hb hl.symm hy
  omega
theorem apart_selfs {a b : List Int} (ha : okP a = true) (hb : okP b = true) (hl : a.length = b.length) (h8 : a.length ≤ 8) : rApartOf (selfs a, selfs b) = ((a, b), 0) := by
  rw [rApartOf, if_pos (psOk_selfs ha hb hl h8)]
  simp only [all_selfs, Bool.and_self, if_true, vals_selfs]
theorem sP2_selfs : ∀ (a b : List Int), a.length = b.length → sP2 (selfs a) (selfs b) = sumL a + sumL b
  | [], [], _ => rfl
  | x :: a, y :: b, h => by
    have ih := sP2_selfs a b (by simpa using h)
    show x + y + sP2 (selfs a) (selfs b) = sumL (x :: a) + sumL (y :: b)
    rw [ih]
    simp only [sumL]
    omega
theorem props_selfs {a b : List Int} (ha : okP a = true) (hb : okP b = true) (hl : a.length = b.length) (h8 : a.length ≤ 8) : rPassingProps (selfs a, selfs b) = (prN a + prN b, 0) := by
  rw [rPassingProps, if_pos (psOk_selfs ha hb hl h8)]
  have h1 := prN_mul ha
  have h2 := prN_mul hb
  have h3 := (thOk_iff (okP_th ha)).2.1
  show (sP2 (selfs a) (selfs b) / ((selfs a).length : Int), (0 : Int)) = _
  rw [sP2_selfs a b hl, selfs_len, ← h1, ← h2, ← hl, ← Int.add_mul, Int.mul_ediv_cancel _ (by omega)]
theorem together_ok {a b : List Int} {T : Psg} (h : rTogetherOf a b = (T, 0)) : okP a = true ∧ okP b = true ∧ a.length = b.length ∧ a.length ≤ 8 ∧ T = (selfs a, selfs b) := by
  unfold rTogetherOf at h
  split at h
  · rename_i h1
    rw [Bool.and_eq_true] at h1
    split at h
    · rename_i h2
      split at h
      · rename_i h3
        injection h with h _
        exact ⟨h1.1, h1.2, h2, h3, h.symm⟩
      · injection h with _ h; cases h
    · injection h with _ h; cases h
  · injection h with _ h; cases h
theorem passes_yes {q : Psg} (h : psOk q = true) : rPassesOf q = ((passB 0 q.1, passB 0 q.2), 0) := by rw [rPassesOf, if_pos h]
theorem passes_no {q : Psg} (h : psOk q = false) : rPassesOf q = (([], []), 1) := by rw [rPassesOf, h]; rfl
theorem props_no {q : Psg} (h : psOk q = false) : rPassingProps q = (0, 1) := by rw [rPassingProps, h]; rfl
theorem apart_all {q : Psg} (h : psOk q = true) (ha : (q.1.all (fun x => !x.2) && q.2.all (fun x => !x.2)) = true) : rApartOf q = ((valsL q.1, valsL q.2), 0) ∧ (passB 0 q.1).length = 0 ∧ (passB 0 q.2).length = 0 ∧ (valsL q.1).length = (valsL q.2).length := by
  have h1 := (Bool.and_eq_true _ _).mp ha
  refine ⟨by rw [rApartOf, if_pos h, ha]; rfl, by rw [(passB_nil q.1 0).2 h1.1]; rfl, by rw [(passB_nil q.2 0).2 h1.2]; rfl, ?_⟩
  rw [valsL_len, valsL_len]
  exact (psSh_iff.1 (psOk_iff.1 h).1).2.1
theorem apart_pass {q : Psg} (h : psOk q = true) (ha : (q.1.all (fun x => !x.2) && q.2.all (fun x => !x.2)) = false) : rApartOf q = (([], []), 10) ∧ 0 < (passB 0 q.1).length + (passB 0 q.2).length :=
  ⟨by rw [rApartOf, if_pos h, ha]; rfl, (sum_pos q).2 (by rw [ha]; simp)⟩
end Go.Proofs.Ytlbhfjbbkkkldaa

/- The walk of the law FnTogether. -/
namespace Go.Proofs.Ytlbhfjbbkkkldaa
open Go.RowKit
set_option linter.unusedVariables false

theorem same_psg {p : Psg} : decide (p = p) = true := decide_eq_true rfl
theorem same_ints {p : List Int} : decide (p = p) = true := decide_eq_true rfl
theorem tog_len {a b : List Int} {T1 T2 : List PT} {tc : Int} (h : rTogetherOf a b = ((T1, T2), tc)) : T1.length ≤ 8 ∧ T2.length ≤ 8 := by
  unfold rTogetherOf at h
  split at h
  · split at h
    · split at h
      · rename_i h2 h3
        injection h with h _
        injection h with h1 h4
        rw [← h1, ← h4, selfs_len, selfs_len]; omega
      · injection h with h _; injection h with h1 h4; rw [← h1, ← h4]; exact ⟨Nat.zero_le _, Nat.zero_le _⟩
    · injection h with h _; injection h with h1 h4; rw [← h1, ← h4]; exact ⟨Nat.zero_le _, Nat.zero_le _⟩
  · injection h with h _; injection h with h1 h4; rw [← h1, ← h4]; exact ⟨Nat.zero_le _, Nat.zero_le _⟩
theorem apart_len {p : Psg} {c d : List Int} {o : Int} (h : rApartOf p = ((c, d), o)) : c.length ≤ 8 ∧ d.length ≤ 8 := by
  unfold rApartOf at h
  split at h
  · rename_i hp
    have h8 := psSh_iff.1 (psOk_iff.1 hp).1
    split at h
    · injection h with h _; injection h with h1 h4; rw [← h1, ← h4, valsL_len, valsL_len]; omega
    · injection h with h _; injection h with h1 h4; rw [← h1, ← h4]; exact ⟨Nat.zero_le _, Nat.zero_le _⟩
  · injection h with h _; injection h with h1 h4; rw [← h1, ← h4]; exact ⟨Nat.zero_le _, Nat.zero_le _⟩
theorem passes_len {p : Psg} {c d : List Int} {o : Int} (h : rPassesOf p = ((c, d), o)) : c.length ≤ 8 ∧ d.length ≤ 8 := by
  unfold rPassesOf at h
  split at h
  · rename_i hp
    have h8 := psSh_iff.1 (psOk_iff.1 hp).1
    injection h with h _; injection h with h1 h4
    have u := passB_len p.1 0
    have v := passB_len p.2 0
    rw [← h1, ← h4]; omega
  · injection h with h _; injection h with h1 h4; rw [← h1, ← h4]; exact ⟨Nat.zero_le _, Nat.zero_le _⟩
set_option maxRecDepth 100000 in
set_option maxHeartbeats 16000000 in
theorem fnTogether_main (w : World) (A : Option Addr) (n c : Nat) (xs : List Int) (hK : Came .u8 w A n c xs) (hl : n ≤ 4096) :
    Calls Try.prog 5 #[.slice A n c] w fun e w' => e = .returned (.bool true) ∧ Below w.heap.size w w' := by
  have hq : decide (4096 < n) = false := by simp; omega
  have hL := f6big_any A n c w (by omega)
  rw [hq] at hL
  have hL := hid hL
  have hR := hid (fun (w1 : World) (b : Below w.heap.size w w1) => ((Rd.of_came hK).below b (Nat.le_refl _)).more b.size)
  have hX := hid hK.bytes
  have HB : Hid (Below w.heap.size w w) := Below.refl _ _
  clear hK hq
  go_enter Try.func5, Try.ntmps5
  go_wp2_with (go_at_call 9; refine (hL.out).mono ?_; rintro e w' ⟨rfl, rfl⟩)
  refine (DrawTogetherOf_any A n c xs _ (by omega) hX.out (hR.out _ HB.out)).mono ?_
  rintro e w1 ⟨⟨A1, c1, A2, c2, a, b, rfl, ha13, hb13, hoa, hob⟩, hb1⟩
  have HOA := hid (Rd.of_own hoa)
  have HOB := hid (Rd.of_own hob)
  clear hoa hob hL
  have Ra := hid (HOA.out)
  have Rb := hid (HOB.out)
  have HB := hid (bchain HB.out hb1)
  clear hb1
  clear HOA HOB
  obtain ⟨⟨⟨T1, T2⟩, tc⟩, hT⟩ : ∃ x, rTogetherOf a b = x := ⟨_, rfl⟩
  have hTL := tog_len hT
  obtain ⟨hT1, hT2⟩ := hTL
  have HT := hid hT
  clear hT
  have q1 : (tc != tc) = false := by simp
  have hC := TogetherOf_any A1 A2 a.length c1 b.length c2 a b w1 (by omega) (by omega) Ra.out Rb.out
  rw [HT.out] at hC
  replace hC := hid hC
  go_wp2_with fail
  refine (hC.out).mono ?_
  rintro e w2 ⟨⟨A3, c3, B3, d3, _, _, rfl, ho3, hp3, _⟩, hb2⟩
  clear hC
  simp only at ho3 hp3
  have HO3 := hid (Rd.of_own ho3)
  have HP3 := hid (Rd.of_own hp3)
  clear ho3 hp3
  have Ra := hid ((Ra.out.below hb2 (Nat.le_refl _)).more hb2.size)
  have Rb := hid ((Rb.out.below hb2 (Nat.le_refl _)).more hb2.size)
  have HB := hid (bchain HB.out hb2)
  have hal : Below w2.heap.size w2 (w2.alloc (Obj.cells #[.slice A3 T1.length c3, .slice B3 T2.length d3] 35)) := (by repeat' (first | exact Below.refl _ _ | (with_reducible assumption) | (with_reducible refine Below.alloc ?_ ?_ _) | (with_reducible refine Below.setCell ?_ ?_ _) | (with_reducible refine Below.drew ?_) | (with_reducible refine below_drewN ?_ _) | (refine Below.trans ?_ (Below.mono (by assumption) ?_)) | (with_reducible exact Nat.le_refl _) | (with_reducible assumption) | (exact Below.size (by assumption)) | omega | go_size | (simp at *; omega)))
  have Ra := hid ((Ra.out.below hal (Nat.le_refl _)).more hal.size)
  have Rb := hid ((Rb.out.below hal (Nat.le_refl _)).more hal.size)
  have X3 := hid (Bx.new w2 35 #[.slice A3 T1.length c3, .slice B3 T2.length d3])
  have M3 := hid ((HO3.out.below hal (Nat.le_refl _)).more hal.size)
  have N3 := hid ((HP3.out.below hal (Nat.le_refl _)).more hal.size)
  have HB := hid (bchain HB.out hal)
  clear hal
  clear hb2
  clear HO3 HP3
  have hC := specTogetherOf_any A1 A2 a.length c1 b.length c2 a b (w2.alloc (Obj.cells #[.slice A3 T1.length c3, .slice B3 T2.length d3] 35)) (by omega) (by omega) Ra.out Rb.out
  rw [HT.out] at hC
  replace hC := hid hC
  go_wp2_with fail
  refine (hC.out).mono ?_
  rintro e w3 ⟨⟨A4, c4, B4, d4, _, _, rfl, ho4, hp4, _⟩, hb3⟩
  try clear l3
  try clear x3 y3
  clear hC
  simp only at ho4 hp4
  have HO4 := hid (Rd.of_own ho4)
  have HP4 := hid (Rd.of_own hp4)
  clear ho4 hp4
  have Ra := hid ((Ra.out.below hb3 (Nat.le_refl _)).more hb3.size)
  have Rb := hid ((Rb.out.below hb3 (Nat.le_refl _)).more hb3.size)
  have X3 := hid (X3.out.below hb3 X3.out.lt)
  have M3 := hid ((M3.out.below hb3 (Nat.le_refl _)).more hb3.size)
  have N3 := hid ((N3.out.below hb3 (Nat.le_refl _)).more hb3.size)
  have HB := hid (bchain HB.out hb3)
  have l3 : w2.heap.size < w3.heap.size := X3.out.lt
  have x3 : w3.cell? ⟨w2.heap.size, 0, none⟩ = some (.slice A3 T1.length c3) := bx_p0 X3.out
  have y3 : w3.cell? ⟨w2.heap.size, 1, none⟩ = some (.slice B3 T2.length d3) := bx_p1 X3.out
  have hal : Below w3.heap.size w3 (w3.alloc (Obj.cells #[.slice A4 T1.length c4, .slice B4 T2.length d4] 35)) := (by repeat' (first | exact Below.refl _ _ | (with_reducible assumption) | (with_reducible refine Below.alloc ?_ ?_ _) | (with_reducible refine Below.setCell ?_ ?_ _) | (with_reducible refine Below.drew ?_) | (with_reducible refine below_drewN ?_ _) | (refine Below.trans ?_ (Below.mono (by assumption) ?_)) | (with_reducible exact Nat.le_refl _) | (with_reducible assumption) | (exact Below.size (by assumption)) | omega | go_size | (simp at *; omega)))
  have Ra := hid ((Ra.out.below hal (Nat.le_refl _)).more hal.size)
  have Rb := hid ((Rb.out.below hal (Nat.le_refl _)).more hal.size)
  have X3 := hid (X3.out.alloc (Obj.cells #[.slice A4 T1.length c4, .slice B4 T2.length d4] 35))
  have M3 := hid ((M3.out.below hal (Nat.le_refl _)).more hal.size)
  have N3 := hid ((N3.out.below hal (Nat.le_refl _)).more hal.size)
  have X4 := hid (Bx.new w3 35 #[.slice A4 T1.length c4, .slice B4 T2.length d4])
  have M4 := hid ((HO4.out.below hal (Nat.le_refl _)).more hal.size)
  have N4 := hid ((HP4.out.below hal (Nat.le_refl _)).more hal.size)
  have HB := hid (bchain HB.out hal)
  clear hal
  clear hb3
  clear HO4 HP4
  go_wp2_with fail
  refine (DrawApartOf_any A n c xs _ (by omega) hX.out (hR.out _ HB.out)).mono ?_
  rintro e w4 ⟨⟨A5, n5, c5, B5, m5, d5, rfl, p, hu1, hu2, hu3, hu4⟩, hb4⟩
  try clear l3 l4
  try clear x3 y3 x4 y4
  have HO5 := hid hu1.rd
  have HP5 := hid hu2.rd
  have hn5 := hu3
  have hm5 := hu4
  clear hu1 hu2 hu3 hu4
  have Ra := hid ((Ra.out.below hb4 (Nat.le_refl _)).more hb4.size)
  have Rb := hid ((Rb.out.below hb4 (Nat.le_refl _)).more hb4.size)
  have X3 := hid (X3.out.below hb4 X3.out.lt)
  have M3 := hid ((M3.out.below hb4 (Nat.le_refl _)).more hb4.size)
  have N3 := hid ((N3.out.below hb4 (Nat.le_refl _)).more hb4.size)
  have X4 := hid (X4.out.below hb4 X4.out.lt)
  have M4 := hid ((M4.out.below hb4 (Nat.le_refl _)).more hb4.size)
  have N4 := hid ((N4.out.below hb4 (Nat.le_refl _)).more hb4.size)
  have HB := hid (bchain HB.out hb4)
  have l3 : w2.heap.size < w4.heap.size := X3.out.lt
  have x3 : w4.cell? ⟨w2.heap.size, 0, none⟩ = some (.slice A3 T1.length c3) := bx_p0 X3.out
  have y3 : w4.cell? ⟨w2.heap.size, 1, none⟩ = some (.slice B3 T2.length d3) := bx_p1 X3.out
  have l4 : w3.heap.size < w4.heap.size := X4.out.lt
  have x4 : w4.cell? ⟨w3.heap.size, 0, none⟩ = some (.slice A4 T1.length c4) := bx_p0 X4.out
  have y4 : w4.cell? ⟨w3.heap.size, 1, none⟩ = some (.slice B4 T2.length d4) := bx_p1 X4.out
  have hal : Below w4.heap.size w4 (w4.alloc (Obj.cells #[.slice A5 n5 c5, .slice B5 m5 d5] 35)) := (by repeat' (first | exact Below.refl _ _ | (with_reducible assumption) | (with_reducible refine Below.alloc ?_ ?_ _) | (with_reducible refine Below.setCell ?_ ?_ _) | (with_reducible refine Below.drew ?_) | (with_reducible refine below_drewN ?_ _) | (refine Below.trans ?_ (Below.mono (by assumption) ?_)) | (with_reducible exact Nat.le_refl _) | (with_reducible assumption) | (exact Below.size (by assumption)) | omega | go_size | (simp at *; omega)))
  have Ra := hid ((Ra.out.below hal (Nat.le_refl _)).more hal.size)
  have Rb := hid ((Rb.out.below hal (Nat.le_refl _)).more hal.size)
  have X3 := hid (X3.out.alloc (Obj.cells #[.slice A5 n5 c5, .slice B5 m5 d5] 35))
  have M3 := hid ((M3.out.below hal (Nat.le_refl _)).more hal.size)
  have N3 := hid ((N3.out.below hal (Nat.le_refl _)).more hal.size)
  have X4 := hid (X4.out.alloc (Obj.cells #[.slice A5 n5 c5, .slice B5 m5 d5] 35))
  have M4 := hid ((M4.out.below hal (Nat.le_refl _)).more hal.size)
  have N4 := hid ((N4.out.below hal (Nat.le_refl _)).more hal.size)
  have X5 := hid (Bx.new w4 35 #[.slice A5 n5 c5, .slice B5 m5 d5])
  have M5 := hid ((HO5.out.below hal (Nat.le_refl _)).more hal.size)
  have N5 := hid ((HP5.out.below hal (Nat.le_refl _)).more hal.size)
  have HB := hid (bchain HB.out hal)
  clear hal
  clear hb4
  clear HO5 HP5
  obtain ⟨⟨⟨cc, dd⟩, oc⟩, hAp⟩ : ∃ x, rApartOf p = x := ⟨_, rfl⟩
  have hAL := apart_len hAp
  obtain ⟨hcc, hdd⟩ := hAL
  have HAP := hid hAp
  clear hAp
  have q2 : (oc != oc) = false := by simp
  have hC := ApartOf_any A5 B5 n5 c5 m5 d5 p (w4.alloc (Obj.cells #[.slice A5 n5 c5, .slice B5 m5 d5] 35)) (by omega) (by omega) M5.out N5.out
  rw [HAP.out] at hC
  replace hC := hid hC
  go_wp2_with fail
  refine (hC.out).mono ?_
  rintro e w5 ⟨⟨A6, c6, A7, c7, rfl, ho6, ho7⟩, hb5⟩
  try clear l3 l4 l5
  try clear x3 y3 x4 y4 x5 y5
  clear hC
  simp only at ho6 ho7
  have HO6 := hid (Rd.of_own ho6)
  have HO7 := hid (Rd.of_own ho7)
  clear ho6 ho7
  have Ra := hid ((Ra.out.below hb5 (Nat.le_refl _)).more hb5.size)
  have Rb := hid ((Rb.out.below hb5 (Nat.le_refl _)).more hb5.size)
  have R6 := hid (HO6.out)
  have R7 := hid (HO7.out)
  have X3 := hid (X3.out.below hb5 X3.out.lt)
  have M3 := hid ((M3.out.below hb5 (Nat.le_refl _)).more hb5.size)
  have N3 := hid ((N3.out.below hb5 (Nat.le_refl _)).more hb5.size)
  have X4 := hid (X4.out.below hb5 X4.out.lt)
  have M4 := hid ((M4.out.below hb5 (Nat.le_refl _)).more hb5.size)
  have N4 := hid ((N4.out.below hb5 (Nat.le_refl _)).more hb5.size)
  have X5 := hid (X5.out.below hb5 X5.out.lt)
  have M5 := hid ((M5.out.below hb5 (Nat.le_refl _)).more hb5.size)
  have N5 := hid ((N5.out.below hb5 (Nat.le_refl _)).more hb5.size)
  have HB := hid (bchain HB.out hb5)
  have l3 : w2.heap.size < w5.heap.size := X3.out.lt
  have x3 : w5.cell? ⟨w2.heap.size, 0, none⟩ = some (.slice A3 T1.length c3) := bx_p0 X3.out
  have y3 : w5.cell? ⟨w2.heap.size, 1, none⟩ = some (.slice B3 T2.length d3) := bx_p1 X3.out
  have l4 : w3.heap.size < w5.heap.size := X4.out.lt
  have x4 : w5.cell? ⟨w3.heap.size, 0, none⟩ = some (.slice A4 T1.length c4) := bx_p0 X4.out
  have y4 : w5.cell? ⟨w3.heap.size, 1, none⟩ = some (.slice B4 T2.length d4) := bx_p1 X4.out
  have l5 : w4.heap.size < w5.heap.size := X5.out.lt
  have x5 : w5.cell? ⟨w4.heap.size, 0, none⟩ = some (.slice A5 n5 c5) := bx_p0 X5.out
  have y5 : w5.cell? ⟨w4.heap.size, 1, none⟩ = some (.slice B5 m5 d5) := bx_p1 X5.out
  clear hb5
  clear HO6 HO7
  have hC := specApartOf_any A5 B5 n5 c5 m5 d5 p w5 (by omega) (by omega) M5.out N5.out
  rw [HAP.out] at hC
  replace hC := hid hC
  go_wp2_with fail
  refine (hC.out).mono ?_
  rintro e w6 ⟨⟨A8, c8, A9, c9, rfl, ho6, ho7⟩, hb6⟩
  try clear l3 l4 l5
  try clear x3 y3 x4 y4 x5 y5
  clear hC
  simp only at ho6 ho7
  have HO6 := hid (Rd.of_own ho6)
  have HO7 := hid (Rd.of_own ho7)
  clear ho6 ho7
  have Ra := hid ((Ra.out.below hb6 (Nat.le_refl _)).more hb6.size)
  have Rb := hid ((Rb.out.below hb6 (Nat.le_refl _)).more hb6.size)
  have R6 := hid ((R6.out.below hb6 (Nat.le_refl _)).more hb6.size)
  have R7 := hid ((R7.out.below hb6 (Nat.le_refl _)).more hb6.size)
  have R8 := hid (HO6.out)
  have R9 := hid (HO7.out)
  have X3 := hid (X3.out.below hb6 X3.out.lt)
  have M3 := hid ((M3.out.below hb6 (Nat.le_refl _)).more hb6.size)
  have N3 := hid ((N3.out.below hb6 (Nat.le_refl _)).more hb6.size)
  have X4 := hid (X4.out.below hb6 X4.out.lt)
  have M4 := hid ((M4.out.below hb6 (Nat.le_refl _)).more hb6.size)
  have N4 := hid ((N4.out.below hb6 (Nat.le_refl _)).more hb6.size)
  have X5 := hid (X5.out.below hb6 X5.out.lt)
  have M5 := hid ((M5.out.below hb6 (Nat.le_refl _)).more hb6.size)
  have N5 := hid ((N5.out.below hb6 (Nat.le_refl _)).more hb6.size)
  have HB := hid (bchain HB.out hb6)
  have l3 : w2.heap.size < w6.heap.size := X3.out.lt
  have x3 : w6.cell? ⟨w2.heap.size, 0, none⟩ = some (.slice A3 T1.length c3) := bx_p0 X3.out
  have y3 : w6.cell? ⟨w2.heap.size, 1, none⟩ = some (.slice B3 T2.length d3) := bx_p1 X3.out
  have l4 : w3.heap.size < w6.heap.size := X4.out.lt
  have x4 : w6.cell? ⟨w3.heap.size, 0, none⟩ = some (.slice A4 T1.length c4) := bx_p0 X4.out
  have y4 : w6.cell? ⟨w3.heap.size, 1, none⟩ = some (.slice B4 T2.length d4) := bx_p1 X4.out
  have l5 : w4.heap.size < w6.heap.size := X5.out.lt
  have x5 : w6.cell? ⟨w4.heap.size, 0, none⟩ = some (.slice A5 n5 c5) := bx_p0 X5.out
  have y5 : w6.cell? ⟨w4.heap.size, 1, none⟩ = some (.slice B5 m5 d5) := bx_p1 X5.out
  clear hb6
  clear HO6 HO7
  go_wp2_with fail
  refine (DrawPassesOf_any A n c xs _ (by omega) hX.out (hR.out _ HB.out)).mono ?_
  rintro e w7 ⟨⟨Aq, nq, cq, Bq, mq, dq, rfl, q, hu1, hu2, hu3, hu4⟩, hb7⟩
  try clear l3 l4 l5
  try clear x3 y3 x4 y4 x5 y5
  have HO5 := hid hu1.rd
  have HP5 := hid hu2.rd
  have hnq := hu3
  have hmq := hu4
  clear hu1 hu2 hu3 hu4
  have Ra := hid ((Ra.out.below hb7 (Nat.le_refl _)).more hb7.size)
  have Rb := hid ((Rb.out.below hb7 (Nat.le_refl _)).more hb7.size)
  have R6 := hid ((R6.out.below hb7 (Nat.le_refl _)).more hb7.size)
  have R7 := hid ((R7.out.below hb7 (Nat.le_refl _)).more hb7.size)
  have R8 := hid ((R8.out.below hb7 (Nat.le_refl _)).more hb7.size)
  have R9 := hid ((R9.out.below hb7 (Nat.le_refl _)).more hb7.size)
  have X3 := hid (X3.out.below hb7 X3.out.lt)
  have M3 := hid ((M3.out.below hb7 (Nat.le_refl _)).more hb7.size)
  have N3 := hid ((N3.out.below hb7 (Nat.le_refl _)).more hb7.size)
  have X4 := hid (X4.out.below hb7 X4.out.lt)
  have M4 := hid ((M4.out.below hb7 (Nat.le_refl _)).more hb7.size)
  have N4 := hid ((N4.out.below hb7 (Nat.le_refl _)).more hb7.size)
  have X5 := hid (X5.out.below hb7 X5.out.lt)
  have M5 := hid ((M5.out.below hb7 (Nat.le_refl _)).more hb7.size)
  have N5 := hid ((N5.out.below hb7 (Nat.le_refl _)).more hb7.size)
  have HB := hid (bchain HB.out hb7)
  have l3 : w2.heap.size < w7.heap.size := X3.out.lt
  have x3 : w7.cell? ⟨w2.heap.size, 0, none⟩ = some (.slice A3 T1.length c3) := bx_p0 X3.out
  have y3 : w7.cell? ⟨w2.heap.size, 1, none⟩ = some (.slice B3 T2.length d3) := bx_p1 X3.out
  have l4 : w3.heap.size < w7.heap.size := X4.out.lt
  have x4 : w7.cell? ⟨w3.heap.size, 0, none⟩ = some (.slice A4 T1.length c4) := bx_p0 X4.out
  have y4 : w7.cell? ⟨w3.heap.size, 1, none⟩ = some (.slice B4 T2.length d4) := bx_p1 X4.out
  have l5 : w4.heap.size < w7.heap.size := X5.out.lt
  have x5 : w7.cell? ⟨w4.heap.size, 0, none⟩ = some (.slice A5 n5 c5) := bx_p0 X5.out
  have y5 : w7.cell? ⟨w4.heap.size, 1, none⟩ = some (.slice B5 m5 d5) := bx_p1 X5.out
  have hal : Below w7.heap.size w7 (w7.alloc (Obj.cells #[.slice Aq nq cq, .slice Bq mq dq] 35)) := (by repeat' (first | exact Below.refl _ _ | (with_reducible assumption) | (with_reducible refine Below.alloc ?_ ?_ _) | (with_reducible refine Below.setCell ?_ ?_ _) | (with_reducible refine Below.drew ?_) | (with_reducible refine below_drewN ?_ _) | (refine Below.trans ?_ (Below.mono (by assumption) ?_)) | (with_reducible exact Nat.le_refl _) | (with_reducible assumption) | (exact Below.size (by assumption)) | omega | go_size | (simp at *; omega)))
  have Ra := hid ((Ra.out.below hal (Nat.le_refl _)).more hal.size)
  have Rb := hid ((Rb.out.below hal (Nat.le_refl _)).more hal.size)
  have R6 := hid ((R6.out.below hal (Nat.le_refl _)).more hal.size)
  have R7 := hid ((R7.out.below hal (Nat.le_refl _)).more hal.size)
  have R8 := hid ((R8.out.below hal (Nat.le_refl _)).more hal.size)
  have R9 := hid ((R9.out.below hal (Nat.le_refl _)).more hal.size)
  have X3 := hid (X3.out.alloc (Obj.cells #[.slice Aq nq cq, .slice Bq mq dq] 35))
  have M3 := hid ((M3.out.below hal (Nat.le_refl _)).more hal.size)
  have N3 := hid ((N3.out.below hal (Nat.le_refl _)).more hal.size)
  have X4 := hid (X4.out.alloc (Obj.cells #[.slice Aq nq cq, .slice Bq mq dq] 35))
  have M4 := hid ((M4.out.below hal (Nat.le_refl _)).more hal.size)
  have N4 := hid ((N4.out.below hal (Nat.le_refl _)).more hal.size)
  have X5 := hid (X5.out.alloc (Obj.cells #[.slice Aq nq cq, .slice Bq mq dq] 35))
  have M5 := hid ((M5.out.below hal (Nat.le_refl _)).more hal.size)
  have N5 := hid ((N5.out.below hal (Nat.le_refl _)).more hal.size)
  have Xq := hid (Bx.new w7 35 #[.slice Aq nq cq, .slice Bq mq dq])
  have Mq := hid ((HO5.out.below hal (Nat.le_refl _)).more hal.size)
  have Nq := hid ((HP5.out.below hal (Nat.le_refl _)).more hal.size)
  have HB := hid (bchain HB.out hal)
  clear hal
  clear hb7
  clear HO5 HP5
  obtain ⟨⟨⟨gg, hh⟩, tq⟩, hPq⟩ : ∃ x, rPassesOf q = x := ⟨_, rfl⟩
  have hPL := passes_len hPq
  obtain ⟨hgg, hhh⟩ := hPL
  obtain ⟨⟨np, fq⟩, hNq⟩ : ∃ x, rPassingProps q = x := ⟨_, rfl⟩
  have HPQ := hid hPq
  have HNQ := hid hNq
  clear hPq hNq
  have q3 : (tq != tq) = false := by simp
  have q4 : (fq != fq) = false := by simp
  have q5 : (np != np) = false := by simp
  have hC := PassesOf_any Aq Bq nq cq mq dq q (w7.alloc (Obj.cells #[.slice Aq nq cq, .slice Bq mq dq] 35)) (by omega) (by omega) Mq.out Nq.out
  rw [HPQ.out] at hC
  replace hC := hid hC
  go_wp2_with fail
  refine (hC.out).mono ?_
  rintro e w8 ⟨⟨Ag, cg, Ah, ch, rfl, ho6, ho7⟩, hb8⟩
  try clear l3 l4 l5 lq
  try clear x3 y3 x4 y4 x5 y5 xq yq
  clear hC
  simp only at ho6 ho7
  have HO6 := hid (Rd.of_own ho6)
  have HO7 := hid (Rd.of_own ho7)
  clear ho6 ho7
  have Ra := hid ((Ra.out.below hb8 (Nat.le_refl _)).more hb8.size)
  have Rb := hid ((Rb.out.below hb8 (Nat.le_refl _)).more hb8.size)
  have R6 := hid ((R6.out.below hb8 (Nat.le_refl _)).more hb8.size)
  have R7 := hid ((R7.out.below hb8 (Nat.le_refl _)).more hb8.size)
  have R8 := hid ((R8.out.below hb8 (Nat.le_refl _)).more hb8.size)
  have R9 := hid ((R9.out.below hb8 (Nat.le_refl _)).more hb8.size)
  have Rg := hid (HO6.out)
  have Rh := hid (HO7.out)
  have X3 := hid (X3.out.below hb8 X3.out.lt)
  have M3 := hid ((M3.out.below hb8 (Nat.le_refl _)).more hb8.size)
  have N3 := hid ((N3.out.below hb8 (Nat.le_refl _)).more hb8.size)
  have X4 := hid (X4.out.below hb8 X4.out.lt)
  have M4 := hid ((M4.out.below hb8 (Nat.le_refl _)).more hb8.size)
  have N4 := hid ((N4.out.below hb8 (Nat.le_refl _)).more hb8.size)
  have X5 := hid (X5.out.below hb8 X5.out.lt)
  have M5 := hid ((M5.out.below hb8 (Nat.le_refl _)).more hb8.size)
  have N5 := hid ((N5.out.below hb8 (Nat.le_refl _)).more hb8.size)
  have Xq := hid (Xq.out.below hb8 Xq.out.lt)
  have Mq := hid ((Mq.out.below hb8 (Nat.le_refl _)).more hb8.size)
  have Nq := hid ((Nq.out.below hb8 (Nat.le_refl _)).more hb8.size)
  have HB := hid (bchain HB.out hb8)
  have l3 : w2.heap.size < w8.heap.size := X3.out.lt
  have x3 : w8.cell? ⟨w2.heap.size, 0, none⟩ = some (.slice A3 T1.length c3) := bx_p0 X3.out
  have y3 : w8.cell? ⟨w2.heap.size, 1, none⟩ = some (.slice B3 T2.length d3) := bx_p1 X3.out
  have l4 : w3.heap.size < w8.heap.size := X4.out.lt
  have x4 : w8.cell? ⟨w3.heap.size, 0, none⟩ = some (.slice A4 T1.length c4) := bx_p0 X4.out
  have y4 : w8.cell? ⟨w3.heap.size, 1, none⟩ = some (.slice B4 T2.length d4) := bx_p1 X4.out
  have l5 : w4.heap.size < w8.heap.size := X5.out.lt
  have x5 : w8.cell? ⟨w4.heap.size, 0, none⟩ = some (.slice A5 n5 c5) := bx_p0 X5.out
  have y5 : w8.cell? ⟨w4.heap.size, 1, none⟩ = some (.slice B5 m5 d5) := bx_p1 X5.out
  have lq : w7.heap.size < w8.heap.size := Xq.out.lt
  have xq : w8.cell? ⟨w7.heap.size, 0, none⟩ = some (.slice Aq nq cq) := bx_p0 Xq.out
  have yq : w8.cell? ⟨w7.heap.size, 1, none⟩ = some (.slice Bq mq dq) := bx_p1 Xq.out
  clear hb8
  clear HO6 HO7
  have hC := specPassesOf_any Aq Bq nq cq mq dq q w8 (by omega) (by omega) Mq.out Nq.out
  rw [HPQ.out] at hC
  replace hC := hid hC
  go_wp2_with fail
  refine (hC.out).mono ?_
  rintro e w9 ⟨⟨Ai, ci, Aj, cj, rfl, ho6, ho7⟩, hb9⟩
  try clear l3 l4 l5 lq
  try clear x3 y3 x4 y4 x5 y5 xq yq
  clear hC
  simp only at ho6 ho7
  have HO6 := hid (Rd.of_own ho6)
  have HO7 := hid (Rd.of_own ho7)
  clear ho6 ho7
  have Ra := hid ((Ra.out.below hb9 (Nat.le_refl _)).more hb9.size)
  have Rb := hid ((Rb.out.below hb9 (Nat.le_refl _)).more hb9.size)
  have R6 := hid ((R6.out.below hb9 (Nat.le_refl _)).more hb9.size)
  have R7 := hid ((R7.out.below hb9 (Nat.le_refl _)).more hb9.size)
  have R8 := hid ((R8.out.below hb9 (Nat.le_refl _)).more hb9.size)
  have R9 := hid ((R9.out.below hb9 (Nat.le_refl _)).more hb9.size)
  have Rg := hid ((Rg.out.below hb9 (Nat.le_refl _)).more hb9.size)
  have Rh := hid ((Rh.out.below hb9 (Nat.le_refl _)).more hb9.size)
  have Ri := hid (HO6.out)
  have Rj := hid (HO7.out)
  have X3 := hid (X3.out.below hb9 X3.out.lt)
  have M3 := hid ((M3.out.below hb9 (Nat.le_refl _)).more hb9.size)
  have N3 := hid ((N3.out.below hb9 (Nat.le_refl _)).more hb9.size)
  have X4 := hid (X4.out.below hb9 X4.out.lt)
  have M4 := hid ((M4.out.below hb9 (Nat.le_refl _)).more hb9.size)
  have N4 := hid ((N4.out.below hb9 (Nat.le_refl _)).more hb9.size)
  have X5 := hid (X5.out.below hb9 X5.out.lt)
  have M5 := hid ((M5.out.below hb9 (Nat.le_refl _)).more hb9.size)
  have N5 := hid ((N5.out.below hb9 (Nat.le_refl _)).more hb9.size)
  have Xq := hid (Xq.out.below hb9 Xq.out.lt)
  have Mq := hid ((Mq.out.below hb9 (Nat.le_refl _)).more hb9.size)
  have Nq := hid ((Nq.out.below hb9 (Nat.le_refl _)).more hb9.size)
  have HB := hid (bchain HB.out hb9)
  have l3 : w2.heap.size < w9.heap.size := X3.out.lt
  have x3 : w9.cell? ⟨w2.heap.size, 0, none⟩ = some (.slice A3 T1.length c3) := bx_p0 X3.out
  have y3 : w9.cell? ⟨w2.heap.size, 1, none⟩ = some (.slice B3 T2.length d3) := bx_p1 X3.out
  have l4 : w3.heap.size < w9.heap.size := X4.out.lt
  have x4 : w9.cell? ⟨w3.heap.size, 0, none⟩ = some (.slice A4 T1.length c4) := bx_p0 X4.out
  have y4 : w9.cell? ⟨w3.heap.size, 1, none⟩ = some (.slice B4 T2.length d4) := bx_p1 X4.out
  have l5 : w4.heap.size < w9.heap.size := X5.out.lt
  have x5 : w9.cell? ⟨w4.heap.size, 0, none⟩ = some (.slice A5 n5 c5) := bx_p0 X5.out
  have y5 : w9.cell? ⟨w4.heap.size, 1, none⟩ = some (.slice B5 m5 d5) := bx_p1 X5.out
  have lq : w7.heap.size < w9.heap.size := Xq.out.lt
  have xq : w9.cell? ⟨w7.heap.size, 0, none⟩ = some (.slice Aq nq cq) := bx_p0 Xq.out
  have yq : w9.cell? ⟨w7.heap.size, 1, none⟩ = some (.slice Bq mq dq) := bx_p1 Xq.out
  clear hb9
  clear HO6 HO7
  have hC := PassingProps_any Aq Bq nq cq mq dq q w9 (by omega) (by omega) Mq.out Nq.out
  rw [HNQ.out] at hC
  replace hC := hid hC
  go_wp2_with fail
  refine (hC.out).mono ?_
  rintro e w10 ⟨rfl, hb10⟩
  try clear l3 l4 l5 lq
  try clear x3 y3 x4 y4 x5 y5 xq yq
  clear hC
  have Ra := hid ((Ra.out.below hb10 (Nat.le_refl _)).more hb10.size)
  have Rb := hid ((Rb.out.below hb10 (Nat.le_refl _)).more hb10.size)
  have R6 := hid ((R6.out.below hb10 (Nat.le_refl _)).more hb10.size)
  have R7 := hid ((R7.out.below hb10 (Nat.le_refl _)).more hb10.size)
  have R8 := hid ((R8.out.below hb10 (Nat.le_refl _)).more hb10.size)
  have R9 := hid ((R9.out.below hb10 (Nat.le_refl _)).more hb10.size)
  have Rg := hid ((Rg.out.below hb10 (Nat.le_refl _)).more hb10.size)
  have Rh := hid ((Rh.out.below hb10 (Nat.le_refl _)).more hb10.size)
  have Ri := hid ((Ri.out.below hb10 (Nat.le_refl _)).more hb10.size)
  have Rj := hid ((Rj.out.below hb10 (Nat.le_refl _)).more hb10.size)
  have X3 := hid (X3.out.below hb10 X3.out.lt)
  have M3 := hid ((M3.out.below hb10 (Nat.le_refl _)).more hb10.size)
  have N3 := hid ((N3.out.below hb10 (Nat.le_refl _)).more hb10.size)
  have X4 := hid (X4.out.below hb10 X4.out.lt)
  have M4 := hid ((M4.out.below hb10 (Nat.le_refl _)).more hb10.size)
  have N4 := hid ((N4.out.below hb10 (Nat.le_refl _)).more hb10.size)
  have X5 := hid (X5.out.below hb10 X5.out.lt)
  have M5 := hid ((M5.out.below hb10 (Nat.le_refl _)).more hb10.size)
  have N5 := hid ((N5.out.below hb10 (Nat.le_refl _)).more hb10.size)
  have Xq := hid (Xq.out.below hb10 Xq.out.lt)
  have Mq := hid ((Mq.out.below hb10 (Nat.le_refl _)).more hb10.size)
  have Nq := hid ((Nq.out.below hb10 (Nat.le_refl _)).more hb10.size)
  have HB := hid (bchain HB.out hb10)
  have l3 : w2.heap.size < w10.heap.size := X3.out.lt
  have x3 : w10.cell? ⟨w2.heap.size, 0, none⟩ = some (.slice A3 T1.length c3) := bx_p0 X3.out
  have y3 : w10.cell? ⟨w2.heap.size, 1, none⟩ = some (.slice B3 T2.length d3) := bx_p1 X3.out
  have l4 : w3.heap.size < w10.heap.size := X4.out.lt
  have x4 : w10.cell? ⟨w3.heap.size, 0, none⟩ = some (.slice A4 T1.length c4) := bx_p0 X4.out
  have y4 : w10.cell? ⟨w3.heap.size, 1, none⟩ = some (.slice B4 T2.length d4) := bx_p1 X4.out
  have l5 : w4.heap.size < w10.heap.size := X5.out.lt
  have x5 : w10.cell? ⟨w4.heap.size, 0, none⟩ = some (.slice A5 n5 c5) := bx_p0 X5.out
  have y5 : w10.cell? ⟨w4.heap.size, 1, none⟩ = some (.slice B5 m5 d5) := bx_p1 X5.out
  have lq : w7.heap.size < w10.heap.size := Xq.out.lt
  have xq : w10.cell? ⟨w7.heap.size, 0, none⟩ = some (.slice Aq nq cq) := bx_p0 Xq.out
  have yq : w10.cell? ⟨w7.heap.size, 1, none⟩ = some (.slice Bq mq dq) := bx_p1 Xq.out
  clear hb10
  have hC := specPassingProps_any Aq Bq nq cq mq dq q w10 (by omega) (by omega) Mq.out Nq.out
  rw [HNQ.out] at hC
  replace hC := hid hC
  go_wp2_with fail
  refine (hC.out).mono ?_
  rintro e w11 ⟨rfl, hb11⟩
  try clear l3 l4 l5 lq
  try clear x3 y3 x4 y4 x5 y5 xq yq
  clear hC
  have Ra := hid ((Ra.out.below hb11 (Nat.le_refl _)).more hb11.size)
  have Rb := hid ((Rb.out.below hb11 (Nat.le_refl _)).more hb11.size)
  have R6 := hid ((R6.out.below hb11 (Nat.le_refl _)).more hb11.size)
  have R7 := hid ((R7.out.below hb11 (Nat.le_refl _)).more hb11.size)
  have R8 := hid ((R8.out.below hb11 (Nat.le_refl _)).more hb11.size)
  have R9 := hid ((R9.out.below hb11 (Nat.le_refl _)).more hb11.size)
  have Rg := hid ((Rg.out.below hb11 (Nat.le_refl _)).more hb11.size)
  have Rh := hid ((Rh.out.below hb11 (Nat.le_refl _)).more hb11.size)
  have Ri := hid ((Ri.out.below hb11 (Nat.le_refl _)).more hb11.size)
  have Rj := hid ((Rj.out.below hb11 (Nat.le_refl _)).more hb11.size)
  have X3 := hid (X3.out.below hb11 X3.out.lt)
  have M3 := hid ((M3.out.below hb11 (Nat.le_refl _)).more hb11.size)
  have N3 := hid ((N3.out.below hb11 (Nat.le_refl _)).more hb11.size)
  have X4 := hid (X4.out.below hb11 X4.out.lt)
  have M4 := hid ((M4.out.below hb11 (Nat.le_refl _)).more hb11.size)
  have N4 := hid ((N4.out.below hb11 (Nat.le_refl _)).more hb11.size)
  have X5 := hid (X5.out.below hb11 X5.out.lt)
  have M5 := hid ((M5.out.below hb11 (Nat.le_refl _)).more hb11.size)
  have N5 := hid ((N5.out.below hb11 (Nat.le_refl _)).more hb11.size)
  have Xq := hid (Xq.out.below hb11 Xq.out.lt)
  have Mq := hid ((Mq.out.below hb11 (Nat.le_refl _)).more hb11.size)
  have Nq := hid ((Nq.out.below hb11 (Nat.le_refl _)).more hb11.size)
  have HB := hid (bchain HB.out hb11)
  have l3 : w2.heap.size < w11.heap.size := X3.out.lt
  have x3 : w11.cell? ⟨w2.heap.size, 0, none⟩ = some (.slice A3 T1.length c3) := bx_p0 X3.out
  have y3 : w11.cell? ⟨w2.heap.size, 1, none⟩ = some (.slice B3 T2.length d3) := bx_p1 X3.out
  have l4 : w3.heap.size < w11.heap.size := X4.out.lt
  have x4 : w11.cell? ⟨w3.heap.size, 0, none⟩ = some (.slice A4 T1.length c4) := bx_p0 X4.out
  have y4 : w11.cell? ⟨w3.heap.size, 1, none⟩ = some (.slice B4 T2.length d4) := bx_p1 X4.out
  have l5 : w4.heap.size < w11.heap.size := X5.out.lt
  have x5 : w11.cell? ⟨w4.heap.size, 0, none⟩ = some (.slice A5 n5 c5) := bx_p0 X5.out
  have y5 : w11.cell? ⟨w4.heap.size, 1, none⟩ = some (.slice B5 m5 d5) := bx_p1 X5.out
  have lq : w7.heap.size < w11.heap.size := Xq.out.lt
  have xq : w11.cell? ⟨w7.heap.size, 0, none⟩ = some (.slice Aq nq cq) := bx_p0 Xq.out
  have yq : w11.cell? ⟨w7.heap.size, 1, none⟩ = some (.slice Bq mq dq) := bx_p1 Xq.out
  clear hb11
  have hC := specSamePassing_any A3 B3 A4 B4 T1.length c3 T2.length d3 T1.length c4 T2.length d4 (T1, T2) (T1, T2) w11 (by omega) (by omega) (by omega) (by omega) M3.out N3.out M4.out N4.out
  rw [same_psg] at hC
  replace hC := hid hC
  go_wp2_with fail
  refine (hC.out).mono ?_
  rintro e w12 ⟨rfl, hb12⟩
  try clear l3 l4 l5 lq
  try clear x3 y3 x4 y4 x5 y5 xq yq
  clear hC
  have Ra := hid ((Ra.out.below hb12 (Nat.le_refl _)).more hb12.size)
  have Rb := hid ((Rb.out.below hb12 (Nat.le_refl _)).more hb12.size)
  have R6 := hid ((R6.out.below hb12 (Nat.le_refl _)).more hb12.size)
  have R7 := hid ((R7.out.below hb12 (Nat.le_refl _)).more hb12.size)
  have R8 := hid ((R8.out.below hb12 (Nat.le_refl _)).more hb12.size)
  have R9 := hid ((R9.out.below hb12 (Nat.le_refl _)).more hb12.size)
  have Rg := hid ((Rg.out.below hb12 (Nat.le_refl _)).more hb12.size)
  have Rh := hid ((Rh.out.below hb12 (Nat.le_refl _)).more hb12.size)
  have Ri := hid ((Ri.out.below hb12 (Nat.le_refl _)).more hb12.size)
  have Rj := hid ((Rj.out.below hb12 (Nat.le_refl _)).more hb12.size)
  have X3 := hid (X3.out.below hb12 X3.out.lt)
  have M3 := hid ((M3.out.below hb12 (Nat.le_refl _)).more hb12.size)
  have N3 := hid ((N3.out.below hb12 (Nat.le_refl _)).more hb12.size)
  have X4 := hid (X4.out.below hb12 X4.out.lt)
  have M4 := hid ((M4.out.below hb12 (Nat.le_refl _)).more hb12.size)
  have N4 := hid ((N4.out.below hb12 (Nat.le_refl _)).more hb12.size)
  have X5 := hid (X5.out.below hb12 X5.out.lt)
  have M5 := hid ((M5.out.below hb12 (Nat.le_refl _)).more hb12.size)
  have N5 := hid ((N5.out.below hb12 (Nat.le_refl _)).more hb12.size)
  have Xq := hid (Xq.out.below hb12 Xq.out.lt)
  have Mq := hid ((Mq.out.below hb12 (Nat.le_refl _)).more hb12.size)
  have Nq := hid ((Nq.out.below hb12 (Nat.le_refl _)).more hb12.size)
  have HB := hid (bchain HB.out hb12)
  have l3 : w2.heap.size < w12.heap.size := X3.out.lt
  have x3 : w12.cell? ⟨w2.heap.size, 0, none⟩ = some (.slice A3 T1.length c3) := bx_p0 X3.out
  have y3 : w12.cell? ⟨w2.heap.size, 1, none⟩ = some (.slice B3 T2.length d3) := bx_p1 X3.out
  have l4 : w3.heap.size < w12.heap.size := X4.out.lt
  have x4 : w12.cell? ⟨w3.heap.size, 0, none⟩ = some (.slice A4 T1.length c4) := bx_p0 X4.out
  have y4 : w12.cell? ⟨w3.heap.size, 1, none⟩ = some (.slice B4 T2.length d4) := bx_p1 X4.out
  have l5 : w4.heap.size < w12.heap.size := X5.out.lt
  have x5 : w12.cell? ⟨w4.heap.size, 0, none⟩ = some (.slice A5 n5 c5) := bx_p0 X5.out
  have y5 : w12.cell? ⟨w4.heap.size, 1, none⟩ = some (.slice B5 m5 d5) := bx_p1 X5.out
  have lq : w7.heap.size < w12.heap.size := Xq.out.lt
  have xq : w12.cell? ⟨w7.heap.size, 0, none⟩ = some (.slice Aq nq cq) := bx_p0 Xq.out
  have yq : w12.cell? ⟨w7.heap.size, 1, none⟩ = some (.slice Bq mq dq) := bx_p1 Xq.out
  clear hb12
  clear X4 M4 N4 X5 M5 N5
  try clear l4
  try clear x4 y4
  try clear l5
  try clear x5 y5
  have hC := f6ints_any A6 A8 cc.length cc.length c6 c8 cc cc w12 (by omega) (by omega) R6.out R8.out
  rw [same_ints] at hC
  replace hC := hid hC
  go_wp2_with fail
  refine (hC.out).mono ?_
  rintro e w13 ⟨rfl, hb13⟩
  try clear l3 lq
  try clear x3 y3 xq yq
  clear hC
  have Ra := hid ((Ra.out.below hb13 (Nat.le_refl _)).more hb13.size)
  have Rb := hid ((Rb.out.below hb13 (Nat.le_refl _)).more hb13.size)
  have R6 := hid ((R6.out.below hb13 (Nat.le_refl _)).more hb13.size)
  have R7 := hid ((R7.out.below hb13 (Nat.le_refl _)).more hb13.size)
  have R8 := hid ((R8.out.below hb13 (Nat.le_refl _)).more hb13.size)
  have R9 := hid ((R9.out.below hb13 (Nat.le_refl _)).more hb13.size)
  have Rg := hid ((Rg.out.below hb13 (Nat.le_refl _)).more hb13.size)
  have Rh := hid ((Rh.out.below hb13 (Nat.le_refl _)).more hb13.size)
  have Ri := hid ((Ri.out.below hb13 (Nat.le_refl _)).more hb13.size)
  have Rj := hid ((Rj.out.below hb13 (Nat.le_refl _)).more hb13.size)
  have X3 := hid (X3.out.below hb13 X3.out.lt)
  have M3 := hid ((M3.out.below hb13 (Nat.le_refl _)).more hb13.size)
  have N3 := hid ((N3.out.below hb13 (Nat.le_refl _)).more hb13.size)
  have Xq := hid (Xq.out.below hb13 Xq.out.lt)
  have Mq := hid ((Mq.out.below hb13 (Nat.le_refl _)).more hb13.size)
  have Nq := hid ((Nq.out.below hb13 (Nat.le_refl _)).more hb13.size)
  have HB := hid (bchain HB.out hb13)
  have l3 : w2.heap.size < w13.heap.size := X3.out.lt
  have x3 : w13.cell? ⟨w2.heap.size, 0, none⟩ = some (.slice A3 T1.length c3) := bx_p0 X3.out
  have y3 : w13.cell? ⟨w2.heap.size, 1, none⟩ = some (.slice B3 T2.length d3) := bx_p1 X3.out
  have lq : w7.heap.size < w13.heap.size := Xq.out.lt
  have xq : w13.cell? ⟨w7.heap.size, 0, none⟩ = some (.slice Aq nq cq) := bx_p0 Xq.out
  have yq : w13.cell? ⟨w7.heap.size, 1, none⟩ = some (.slice Bq mq dq) := bx_p1 Xq.out
  clear hb13
  have hC := f6ints_any A7 A9 dd.length dd.length c7 c9 dd dd w13 (by omega) (by omega) R7.out R9.out
  rw [same_ints] at hC
  replace hC := hid hC
  go_wp2_with fail
  refine (hC.out).mono ?_
  rintro e w14 ⟨rfl, hb14⟩
  try clear l3 lq
  try clear x3 y3 xq yq
  clear hC
  have Ra := hid ((Ra.out.below hb14 (Nat.le_refl _)).more hb14.size)
  have Rb := hid ((Rb.out.below hb14 (Nat.le_refl _)).more hb14.size)
  have R6 := hid ((R6.out.below hb14 (Nat.le_refl _)).more hb14.size)
  have R7 := hid ((R7.out.below hb14 (Nat.le_refl _)).more hb14.size)
  have R8 := hid ((R8.out.below hb14 (Nat.le_refl _)).more hb14.size)
  have R9 := hid ((R9.out.below hb14 (Nat.le_refl _)).more hb14.size)
  have Rg := hid ((Rg.out.below hb14 (Nat.le_refl _)).more hb14.size)
  have Rh := hid ((Rh.out.below hb14 (Nat.le_refl _)).more hb14.size)
  have Ri := hid ((Ri.out.below hb14 (Nat.le_refl _)).more hb14.size)
  have Rj := hid ((Rj.out.below hb14 (Nat.le_refl _)).more hb14.size)
  have X3 := hid (X3.out.below hb14 X3.out.lt)
  have M3 := hid ((M3.out.below hb14 (Nat.le_refl _)).more hb14.size)
  have N3 := hid ((N3.out.below hb14 (Nat.le_refl _)).more hb14.size)
  have Xq := hid (Xq.out.below hb14 Xq.out.lt)
  have Mq := hid ((Mq.out.below hb14 (Nat.le_refl _)).more hb14.size)
  have Nq := hid ((Nq.out.below hb14 (Nat.le_refl _)).more hb14.size)
  have HB := hid (bchain HB.out hb14)
  have l3 : w2.heap.size < w14.heap.size := X3.out.lt
  have x3 : w14.cell? ⟨w2.heap.size, 0, none⟩ = some (.slice A3 T1.length c3) := bx_p0 X3.out
  have y3 : w14.cell? ⟨w2.heap.size, 1, none⟩ = some (.slice B3 T2.length d3) := bx_p1 X3.out
  have lq : w7.heap.size < w14.heap.size := Xq.out.lt
  have xq : w14.cell? ⟨w7.heap.size, 0, none⟩ = some (.slice Aq nq cq) := bx_p0 Xq.out
  have yq : w14.cell? ⟨w7.heap.size, 1, none⟩ = some (.slice Bq mq dq) := bx_p1 Xq.out
  clear hb14
  clear R6 R7 R8 R9
  have hC := f6ints_any Ag Ai gg.length gg.length cg ci gg gg w14 (by omega) (by omega) Rg.out Ri.out
  rw [same_ints] at hC
  replace hC := hid hC
  go_wp2_with fail
  refine (hC.out).mono ?_
  rintro e w15 ⟨rfl, hb15⟩
  try clear l3 lq
  try clear x3 y3 xq yq
  clear hC
  have Ra := hid ((Ra.out.below hb15 (Nat.le_refl _)).more hb15.size)
  have Rb := hid ((Rb.out.below hb15 (Nat.le_refl _)).more hb15.size)
  have Rg := hid ((Rg.out.below hb15 (Nat.le_refl _)).more hb15.size)
  have Rh := hid ((Rh.out.below hb15 (Nat.le_refl _)).more hb15.size)
  have Ri := hid ((Ri.out.below hb15 (Nat.le_refl _)).more hb15.size)
  have Rj := hid ((Rj.out.below hb15 (Nat.le_refl _)).more hb15.size)
  have X3 := hid (X3.out.below hb15 X3.out.lt)
  have M3 := hid ((M3.out.below hb15 (Nat.le_refl _)).more hb15.size)
  have N3 := hid ((N3.out.below hb15 (Nat.le_refl _)).more hb15.size)
  have Xq := hid (Xq.out.below hb15 Xq.out.lt)
  have Mq := hid ((Mq.out.below hb15 (Nat.le_refl _)).more hb15.size)
  have Nq := hid ((Nq.out.below hb15 (Nat.le_refl _)).more hb15.size)
  have HB := hid (bchain HB.out hb15)
  have l3 : w2.heap.size < w15.heap.size := X3.out.lt
  have x3 : w15.cell? ⟨w2.heap.size, 0, none⟩ = some (.slice A3 T1.length c3) := bx_p0 X3.out
  have y3 : w15.cell? ⟨w2.heap.size, 1, none⟩ = some (.slice B3 T2.length d3) := bx_p1 X3.out
  have lq : w7.heap.size < w15.heap.size := Xq.out.lt
  have xq : w15.cell? ⟨w7.heap.size, 0, none⟩ = some (.slice Aq nq cq) := bx_p0 Xq.out
  have yq : w15.cell? ⟨w7.heap.size, 1, none⟩ = some (.slice Bq mq dq) := bx_p1 Xq.out
  clear hb15
  have hC := f6ints_any Ah Aj hh.length hh.length ch cj hh hh w15 (by omega) (by omega) Rh.out Rj.out
  rw [same_ints] at hC
  replace hC := hid hC
  go_wp2_with fail
  refine (hC.out).mono ?_
  rintro e w16 ⟨rfl, hb16⟩
  try clear l3 lq
  try clear x3 y3 xq yq
  clear hC
  have Ra := hid ((Ra.out.below hb16 (Nat.le_refl _)).more hb16.size)
  have Rb := hid ((Rb.out.below hb16 (Nat.le_refl _)).more hb16.size)
  have Rg := hid ((Rg.out.below hb16 (Nat.le_refl _)).more hb16.size)
  have Rh := hid ((Rh.out.below hb16 (Nat.le_refl _)).more hb16.size)
  have Ri := hid ((Ri.out.below hb16 (Nat.le_refl _)).more hb16.size)
  have Rj := hid ((Rj.out.below hb16 (Nat.le_refl _)).more hb16.size)
  have X3 := hid (X3.out.below hb16 X3.out.lt)
  have M3 := hid ((M3.out.below hb16 (Nat.le_refl _)).more hb16.size)
  have N3 := hid ((N3.out.below hb16 (Nat.le_refl _)).more hb16.size)
  have Xq := hid (Xq.out.below hb16 Xq.out.lt)
  have Mq := hid ((Mq.out.below hb16 (Nat.le_refl _)).more hb16.size)
  have Nq := hid ((Nq.out.below hb16 (Nat.le_refl _)).more hb16.size)
  have HB := hid (bchain HB.out hb16)
  have l3 : w2.heap.size < w16.heap.size := X3.out.lt
  have x3 : w16.cell? ⟨w2.heap.size, 0, none⟩ = some (.slice A3 T1.length c3) := bx_p0 X3.out
  have y3 : w16.cell? ⟨w2.heap.size, 1, none⟩ = some (.slice B3 T2.length d3) := bx_p1 X3.out
  have lq : w7.heap.size < w16.heap.size := Xq.out.lt
  have xq : w16.cell? ⟨w7.heap.size, 0, none⟩ = some (.slice Aq nq cq) := bx_p0 Xq.out
  have yq : w16.cell? ⟨w7.heap.size, 1, none⟩ = some (.slice Bq mq dq) := bx_p1 Xq.out
  clear hb16
  clear Rg Rh Ri Rj
  obtain ⟨we, rfl⟩ : ∃ we : World, we = w16 := ⟨_, rfl⟩
  go_upto_if 150 with fail
  go_cut [] (fun wx => Hid (Below w.heap.size w wx ∧ Bx wx w2.heap.size 35 #[.slice A3 T1.length c3, .slice B3 T2.length d3] ∧ Rd wx wx.heap.size 2 A3 T1.length (ths T1) ∧ Rd wx wx.heap.size 2 B3 T2.length (ths T2) ∧ Rd wx wx.heap.size 1 A1 a.length (ints a) ∧ Rd wx wx.heap.size 1 A2 b.length (ints b)))
  case first =>
    cases hpq : psOk q with
    | false =>
      have hE : (((gg, hh), tq) : (List Int × List Int) × Int) = (([], []), 1) := by rw [← HPQ.out]; exact passes_no hpq
      injection hE with _ hE
      subst hE
      clear hpq
      go_wp2_with fail
      go_meet
      exact hid ⟨HB.out, X3.out, M3.out, N3.out, Ra.out, Rb.out⟩
    | true =>
      have hE : (((gg, hh), tq) : (List Int × List Int) × Int) = ((passB 0 q.1, passB 0 q.2), 0) := by rw [← HPQ.out]; exact passes_yes hpq
      injection hE with hE hE2
      injection hE with hE0 hE1
      subst hE2
      cases hall : (q.1.all (fun x => !x.2) && q.2.all (fun x => !x.2)) with
      | true =>
        obtain ⟨hA, hg0, hh0, huv⟩ := apart_all hpq hall
        rw [← hE0] at hg0
        rw [← hE1] at hh0
        have r1 : ((gg.length : Int) == 0) = true := by rw [hg0]; rfl
        have r2 : ((hh.length : Int) == 0) = true := by rw [hh0]; rfl
        have r3 : (((valsL q.1).length : Int) != ((valsL q.2).length : Int)) = false := by rw [huv]; simp
        have hC := specApartOf_any Aq Bq nq cq mq dq q we (by omega) (by omega) Mq.out Nq.out
        rw [hA] at hC
        replace hC := hid hC
        generalize hV1 : valsL q.1 = V1 at *
        generalize hV2 : valsL q.2 = V2 at *
        clear hA hg0 hh0 huv hE0 hE1 hpq hall hV1 hV2
        go_wp2_with fail
        refine (hC.out).mono ?_
        rintro e w37 ⟨⟨Au, cu, Av, cv, rfl, ho6, ho7⟩, hb37⟩
        try clear l3 lq
        try clear x3 y3 xq yq
        clear hC ho6 ho7
        have Ra := hid ((Ra.out.below hb37 (Nat.le_refl _)).more hb37.size)
        have Rb := hid ((Rb.out.below hb37 (Nat.le_refl _)).more hb37.size)
        have X3 := hid (X3.out.below hb37 X3.out.lt)
        have M3 := hid ((M3.out.below hb37 (Nat.le_refl _)).more hb37.size)
        have N3 := hid ((N3.out.below hb37 (Nat.le_refl _)).more hb37.size)
        have Xq := hid (Xq.out.below hb37 Xq.out.lt)
        have Mq := hid ((Mq.out.below hb37 (Nat.le_refl _)).more hb37.size)
        have Nq := hid ((Nq.out.below hb37 (Nat.le_refl _)).more hb37.size)
        have HB := hid (bchain HB.out hb37)
        have l3 : w2.heap.size < w37.heap.size := X3.out.lt
        have x3 : w37.cell? ⟨w2.heap.size, 0, none⟩ = some (.slice A3 T1.length c3) := bx_p0 X3.out
        have y3 : w37.cell? ⟨w2.heap.size, 1, none⟩ = some (.slice B3 T2.length d3) := bx_p1 X3.out
        have lq : w7.heap.size < w37.heap.size := Xq.out.lt
        have xq : w37.cell? ⟨w7.heap.size, 0, none⟩ = some (.slice Aq nq cq) := bx_p0 Xq.out
        have yq : w37.cell? ⟨w7.heap.size, 1, none⟩ = some (.slice Bq mq dq) := bx_p1 Xq.out
        clear hb37
        go_wp2_with fail
        go_meet
        exact hid ⟨HB.out, X3.out, M3.out, N3.out, Ra.out, Rb.out⟩
      | false =>
        obtain ⟨hA, hpos⟩ := apart_pass hpq hall
        rw [← hE0, ← hE1] at hpos
        have hC := specApartOf_any Aq Bq nq cq mq dq q we (by omega) (by omega) Mq.out Nq.out
        rw [hA] at hC
        replace hC := hid hC
        have hgi : 0 ≤ (gg.length : Int) := by omega
        clear hA hE0 hE1 hpq hall
        by_cases hg0 : gg.length = 0
        · have r1 : ((gg.length : Int) == 0) = true := by rw [hg0]; rfl
          have r2 : ((hh.length : Int) == 0) = false := by rw [beq_eq_false_iff_ne]; omega
          clear hg0 hpos
          go_wp2_with fail
          refine (hC.out).mono ?_
          rintro e w37 ⟨⟨Au, cu, Av, cv, rfl, ho6, ho7⟩, hb37⟩
          try clear l3 lq
          try clear x3 y3 xq yq
          clear hC ho6 ho7
          have Ra := hid ((Ra.out.below hb37 (Nat.le_refl _)).more hb37.size)
          have Rb := hid ((Rb.out.below hb37 (Nat.le_refl _)).more hb37.size)
          have X3 := hid (X3.out.below hb37 X3.out.lt)
          have M3 := hid ((M3.out.below hb37 (Nat.le_refl _)).more hb37.size)
          have N3 := hid ((N3.out.below hb37 (Nat.le_refl _)).more hb37.size)
          have Xq := hid (Xq.out.below hb37 Xq.out.lt)
          have Mq := hid ((Mq.out.below hb37 (Nat.le_refl _)).more hb37.size)
          have Nq := hid ((Nq.out.below hb37 (Nat.le_refl _)).more hb37.size)
          have HB := hid (bchain HB.out hb37)
          have l3 : w2.heap.size < w37.heap.size := X3.out.lt
          have x3 : w37.cell? ⟨w2.heap.size, 0, none⟩ = some (.slice A3 T1.length c3) := bx_p0 X3.out
          have y3 : w37.cell? ⟨w2.heap.size, 1, none⟩ = some (.slice B3 T2.length d3) := bx_p1 X3.out
          have lq : w7.heap.size < w37.heap.size := Xq.out.lt
          have xq : w37.cell? ⟨w7.heap.size, 0, none⟩ = some (.slice Aq nq cq) := bx_p0 Xq.out
          have yq : w37.cell? ⟨w7.heap.size, 1, none⟩ = some (.slice Bq mq dq) := bx_p1 Xq.out
          clear hb37
          go_wp2_with fail
          go_meet
          exact hid ⟨HB.out, X3.out, M3.out, N3.out, Ra.out, Rb.out⟩
        · have r1 : ((gg.length : Int) == 0) = false := by rw [beq_eq_false_iff_ne]; omega
          clear hg0 hpos
          go_wp2_with fail
          refine (hC.out).mono ?_
          rintro e w37 ⟨⟨Au, cu, Av, cv, rfl, ho6, ho7⟩, hb37⟩
          try clear l3 lq
          try clear x3 y3 xq yq
          clear hC ho6 ho7
          have Ra := hid ((Ra.out.below hb37 (Nat.le_refl _)).more hb37.size)
          have Rb := hid ((Rb.out.below hb37 (Nat.le_refl _)).more hb37.size)
          have X3 := hid (X3.out.below hb37 X3.out.lt)
          have M3 := hid ((M3.out.below hb37 (Nat.le_refl _)).more hb37.size)
          have N3 := hid ((N3.out.below hb37 (Nat.le_refl _)).more hb37.size)
          have Xq := hid (Xq.out.below hb37 Xq.out.lt)
          have Mq := hid ((Mq.out.below hb37 (Nat.le_refl _)).more hb37.size)
          have Nq := hid ((Nq.out.below hb37 (Nat.le_refl _)).more hb37.size)
          have HB := hid (bchain HB.out hb37)
          have l3 : w2.heap.size < w37.heap.size := X3.out.lt
          have x3 : w37.cell? ⟨w2.heap.size, 0, none⟩ = some (.slice A3 T1.length c3) := bx_p0 X3.out
          have y3 : w37.cell? ⟨w2.heap.size, 1, none⟩ = some (.slice B3 T2.length d3) := bx_p1 X3.out
          have lq : w7.heap.size < w37.heap.size := Xq.out.lt
          have xq : w37.cell? ⟨w7.heap.size, 0, none⟩ = some (.slice Aq nq cq) := bx_p0 Xq.out
          have yq : w37.cell? ⟨w7.heap.size, 1, none⟩ = some (.slice Bq mq dq) := bx_p1 Xq.out
          clear hb37
          go_wp2_with fail
          go_meet
          exact hid ⟨HB.out, X3.out, M3.out, N3.out, Ra.out, Rb.out⟩
  case rest =>
    clear HB X3 M3 N3 Ra Rb Xq Mq Nq HAP HPQ HNQ
    try clear l3
    try clear x3 y3
    try clear lq
    try clear xq yq
    obtain ⟨h1, h2, h3, h4, h5, h6⟩ := hcut.out
    clear hcut
    have HB := hid h1
    have X3 := hid h2
    have M3 := hid h3
    have N3 := hid h4
    have Ra := hid h5
    have Rb := hid h6
    clear h1 h2 h3 h4 h5 h6
    obtain ⟨w60, rfl⟩ : ∃ w60 : World, w60 = wc := ⟨_, rfl⟩
    by_cases hz : tc = 0
    · subst hz
      obtain ⟨hoa, hob, hll, hl8, hTT⟩ := together_ok HT.out
      injection hTT with hTT1 hTT2
      have HOA := hid hoa
      have HOB := hid hob
      have HLL := hid hll
      have e1 := apart_selfs hoa hob hll hl8
      have e2 := props_selfs hoa hob hll hl8
      have hba := prN_bd hoa
      have hbb := prN_bd hob
      have hca := (hiT_bd (okP_th hoa)).2
      have hcb := (hiT_bd (okP_th hob)).2
      obtain ⟨ja, hja⟩ : ∃ x, prN a = x := ⟨_, rfl⟩
      obtain ⟨jb, hjb⟩ : ∃ x, prN b = x := ⟨_, rfl⟩
      have ha0 : 0 ≤ ja := by omega
      have ha1 : ja ≤ 15 := by omega
      have hb0 : 0 ≤ jb := by omega
      have hb1 : jb ≤ 15 := by omega
      rw [hja, hjb] at e2
      rw [← hTT1, ← hTT2] at e1 e2
      have HE1 := hid e1
      have HE2 := hid e2
      have HJA := hid hja
      have HJB := hid hjb
      have hal8 : a.length ≤ 8 := hl8
      have hbl8 : b.length ≤ 8 := by omega
      clear hoa hob hll hl8 hTT1 hTT2 e1 e2 hba hbb hca hcb hja hjb HT
      have l3 : w2.heap.size < w60.heap.size := X3.out.lt
      have x3 : w60.cell? ⟨w2.heap.size, 0, none⟩ = some (.slice A3 T1.length c3) := bx_p0 X3.out
      have y3 : w60.cell? ⟨w2.heap.size, 1, none⟩ = some (.slice B3 T2.length d3) := bx_p1 X3.out
      have hC := ApartOf_any A3 B3 T1.length c3 T2.length d3 (T1, T2) w60 (by omega) (by omega) M3.out N3.out
      rw [HE1.out] at hC
      replace hC := hid hC
      go_wp2_with fail
      refine (hC.out).mono ?_
      rintro e w61 ⟨⟨Au, cu, Av, cv, rfl, ho6, ho7⟩, hb61⟩
      try clear l3
      try clear x3 y3
      clear hC
      simp only at ho6 ho7
      have HO6 := hid (Rd.of_own ho6)
      have HO7 := hid (Rd.of_own ho7)
      clear ho6 ho7
      have Ra := hid ((Ra.out.below hb61 (Nat.le_refl _)).more hb61.size)
      have Rb := hid ((Rb.out.below hb61 (Nat.le_refl _)).more hb61.size)
      have Ru := hid (HO6.out)
      have Rv := hid (HO7.out)
      have X3 := hid (X3.out.below hb61 X3.out.lt)
      have M3 := hid ((M3.out.below hb61 (Nat.le_refl _)).more hb61.size)
      have N3 := hid ((N3.out.below hb61 (Nat.le_refl _)).more hb61.size)
      have HB := hid (bchain HB.out hb61)
      have l3 : w2.heap.size < w61.heap.size := X3.out.lt
      have x3 : w61.cell? ⟨w2.heap.size, 0, none⟩ = some (.slice A3 T1.length c3) := bx_p0 X3.out
      have y3 : w61.cell? ⟨w2.heap.size, 1, none⟩ = some (.slice B3 T2.length d3) := bx_p1 X3.out
      clear hb61
      clear HO6 HO7
      have hC := PassingProps_any A3 B3 T1.length c3 T2.length d3 (T1, T2) w61 (by omega) (by omega) M3.out N3.out
      rw [HE2.out] at hC
      replace hC := hid hC
      go_wp2_with fail
      refine (hC.out).mono ?_
      rintro e w62 ⟨rfl, hb62⟩
      try clear l3
      try clear x3 y3
      clear hC
      have Ra := hid ((Ra.out.below hb62 (Nat.le_refl _)).more hb62.size)
      have Rb := hid ((Rb.out.below hb62 (Nat.le_refl _)).more hb62.size)
      have Ru := hid ((Ru.out.below hb62 (Nat.le_refl _)).more hb62.size)
      have Rv := hid ((Rv.out.below hb62 (Nat.le_refl _)).more hb62.size)
      have X3 := hid (X3.out.below hb62 X3.out.lt)
      have M3 := hid ((M3.out.below hb62 (Nat.le_refl _)).more hb62.size)
      have N3 := hid ((N3.out.below hb62 (Nat.le_refl _)).more hb62.size)
      have HB := hid (bchain HB.out hb62)
      have l3 : w2.heap.size < w62.heap.size := X3.out.lt
      have x3 : w62.cell? ⟨w2.heap.size, 0, none⟩ = some (.slice A3 T1.length c3) := bx_p0 X3.out
      have y3 : w62.cell? ⟨w2.heap.size, 1, none⟩ = some (.slice B3 T2.length d3) := bx_p1 X3.out
      clear hb62
      have hC := PropsOf_ok A1 a.length c1 a w62 HOA.out Ra.out
      rw [HJA.out] at hC
      replace hC := hid hC
      go_wp2_with fail
      refine (hC.out).mono ?_
      rintro e w63 ⟨rfl, hb63⟩
      try clear l3
      try clear x3 y3
      clear hC
      have Ra := hid ((Ra.out.below hb63 (Nat.le_refl _)).more hb63.size)
      have Rb := hid ((Rb.out.below hb63 (Nat.le_refl _)).more hb63.size)
      have Ru := hid ((Ru.out.below hb63 (Nat.le_refl _)).more hb63.size)
      have Rv := hid ((Rv.out.below hb63 (Nat.le_refl _)).more hb63.size)
      have X3 := hid (X3.out.below hb63 X3.out.lt)
      have M3 := hid ((M3.out.below hb63 (Nat.le_refl _)).more hb63.size)
      have N3 := hid ((N3.out.below hb63 (Nat.le_refl _)).more hb63.size)
      have HB := hid (bchain HB.out hb63)
      have l3 : w2.heap.size < w63.heap.size := X3.out.lt
      have x3 : w63.cell? ⟨w2.heap.size, 0, none⟩ = some (.slice A3 T1.length c3) := bx_p0 X3.out
      have y3 : w63.cell? ⟨w2.heap.size, 1, none⟩ = some (.slice B3 T2.length d3) := bx_p1 X3.out
      clear hb63
      have hC := PropsOf_ok A2 b.length c2 b w63 HOB.out Rb.out
      rw [HJB.out] at hC
      replace hC := hid hC
      go_wp2_with fail
      refine (hC.out).mono ?_
      rintro e w64 ⟨rfl, hb64⟩
      try clear l3
      try clear x3 y3
      clear hC
      have Ra := hid ((Ra.out.below hb64 (Nat.le_refl _)).more hb64.size)
      have Rb := hid ((Rb.out.below hb64 (Nat.le_refl _)).more hb64.size)
      have Ru := hid ((Ru.out.below hb64 (Nat.le_refl _)).more hb64.size)
      have Rv := hid ((Rv.out.below hb64 (Nat.le_refl _)).more hb64.size)
      have X3 := hid (X3.out.below hb64 X3.out.lt)
      have M3 := hid ((M3.out.below hb64 (Nat.le_refl _)).more hb64.size)
      have N3 := hid ((N3.out.below hb64 (Nat.le_refl _)).more hb64.size)
      have HB := hid (bchain HB.out hb64)
      have l3 : w2.heap.size < w64.heap.size := X3.out.lt
      have x3 : w64.cell? ⟨w2.heap.size, 0, none⟩ = some (.slice A3 T1.length c3) := bx_p0 X3.out
      have y3 : w64.cell? ⟨w2.heap.size, 1, none⟩ = some (.slice B3 T2.length d3) := bx_p1 X3.out
      clear hb64
      have hC := f6ints_any Au A1 a.length a.length cu c1 a a w64 (by omega) (by omega) Ru.out Ra.out
      rw [same_ints] at hC
      replace hC := hid hC
      go_wp2_with fail
      refine (hC.out).mono ?_
      rintro e w65 ⟨rfl, hb65⟩
      try clear l3
      try clear x3 y3
      clear hC
      have Ra := hid ((Ra.out.below hb65 (Nat.le_refl _)).more hb65.size)
      have Rb := hid ((Rb.out.below hb65 (Nat.le_refl _)).more hb65.size)
      have Ru := hid ((Ru.out.below hb65 (Nat.le_refl _)).more hb65.size)
      have Rv := hid ((Rv.out.below hb65 (Nat.le_refl _)).more hb65.size)
      have X3 := hid (X3.out.below hb65 X3.out.lt)
      have M3 := hid ((M3.out.below hb65 (Nat.le_refl _)).more hb65.size)
      have N3 := hid ((N3.out.below hb65 (Nat.le_refl _)).more hb65.size)
      have HB := hid (bchain HB.out hb65)
      have l3 : w2.heap.size < w65.heap.size := X3.out.lt
      have x3 : w65.cell? ⟨w2.heap.size, 0, none⟩ = some (.slice A3 T1.length c3) := bx_p0 X3.out
      have y3 : w65.cell? ⟨w2.heap.size, 1, none⟩ = some (.slice B3 T2.length d3) := bx_p1 X3.out
      clear hb65
      have hC := f6ints_any Av A2 b.length b.length cv c2 b b w65 (by omega) (by omega) Rv.out Rb.out
      rw [same_ints] at hC
      replace hC := hid hC
      go_wp2_with fail
      refine (hC.out).mono ?_
      rintro e w66 ⟨rfl, hb66⟩
      try clear l3
      try clear x3 y3
      clear hC
      have Ra := hid ((Ra.out.below hb66 (Nat.le_refl _)).more hb66.size)
      have Rb := hid ((Rb.out.below hb66 (Nat.le_refl _)).more hb66.size)
      have Ru := hid ((Ru.out.below hb66 (Nat.le_refl _)).more hb66.size)
      have Rv := hid ((Rv.out.below hb66 (Nat.le_refl _)).more hb66.size)
      have X3 := hid (X3.out.below hb66 X3.out.lt)
      have M3 := hid ((M3.out.below hb66 (Nat.le_refl _)).more hb66.size)
      have N3 := hid ((N3.out.below hb66 (Nat.le_refl _)).more hb66.size)
      have HB := hid (bchain HB.out hb66)
      have l3 : w2.heap.size < w66.heap.size := X3.out.lt
      have x3 : w66.cell? ⟨w2.heap.size, 0, none⟩ = some (.slice A3 T1.length c3) := bx_p0 X3.out
      have y3 : w66.cell? ⟨w2.heap.size, 1, none⟩ = some (.slice B3 T2.length d3) := bx_p1 X3.out
      clear hb66
      clear X3 M3 N3 Ra Rb Ru Rv
      go_wp2
      go_ret
      exact ⟨by first | rfl | (simp; done), HB.out⟩
    · have qz : (tc != 0) = true := by simpa using hz
      clear hz X3 M3 N3 Ra Rb HT
      go_wp2
      go_ret
      exact ⟨rfl, HB.out⟩
set_option maxRecDepth 100000 in
theorem fnTogether_walk (w : World) (A : Option Addr) (n c : Nat) (xs : List Int) (hK : Came .u8 w A n c xs) :
    Calls Try.prog 5 #[.slice A n c] w fun e w' => e = .returned (.bool true) ∧ Below w.heap.size w w' := by
  by_cases h : n ≤ 4096
  · exact fnTogether_main w A n c xs hK h
  · have hq : decide (4096 < n) = true := by simp; omega
    have h1 := hK.2.1; have h2 := hK.2.2.1
    unfold maxLen at h2
    have hL := f6big_any A n c w (by omega)
    rw [hq] at hL
    have hL := hid hL
    clear hK h hq
    go_enter Try.func5, Try.ntmps5
    go_wp2_with (go_at_call 9; refine (hL.out).mono ?_; rintro e w' ⟨rfl, rfl⟩)
    go_ret
    exact ⟨rfl, (by repeat' (first | exact Below.refl _ _ | (with_reducible assumption) | (with_reducible refine Below.alloc ?_ ?_ _) | (with_reducible refine Below.setCell ?_ ?_ _) | (with_reducible refine Below.drew ?_) | (with_reducible refine below_drewN ?_ _) | (refine Below.trans ?_ (Below.mono (by assumption) ?_)) | (with_reducible exact Nat.le_refl _) | (with_reducible assumption) | (exact Below.size (by assumption)) | omega | go_size | (simp at *; omega)))⟩
end Go.Proofs.Ytlbhfjbbkkkldaa
